/- Blocks that a function owns, known whole: how they stay behind calls, allocations and stores. For every program. -/
import Derived.WalkKit
import Derived.Below
import Derived.Lib.Hide
set_option linter.unusedVariables false
set_option linter.unusedSimpArgs false
namespace Go.Proofs.Ytlokjiniigfaiaa
open Go.RowKit

/-- A block of a world, known whole. -/
def Bk (W : World) (n : Nat) (cs : Array Value) (t : TypeId) : Prop := W.heap[n]? = some (.cells cs t (0, 0))

theorem Bk.lt {W : World} {n : Nat} {cs : Array Value} {t : TypeId} (h : Bk W n cs t) : n < W.heap.size := by
  rcases Nat.lt_or_ge n W.heap.size with h1 | h1
  · exact h1
  · rw [Bk, Array.getElem?_eq_none h1] at h; cases h
theorem Bk.on {W W' : World} {n : Nat} {cs : Array Value} {t : TypeId} (h : Bk W n cs t) (hb : Below W.heap.size W W') : Bk W' n cs t := (hb.block n h.lt).trans h
theorem Bk.al {W : World} {n : Nat} {cs : Array Value} {t : TypeId} (h : Bk W n cs t) (o : Obj) : Bk (W.alloc o) n cs t := by
  rw [Bk, Below.heap_alloc _ _ _ h.lt]; exact h
theorem Bk.drew {W : World} {n : Nat} {cs : Array Value} {t : TypeId} (h : Bk W n cs t) : Bk W.drew n cs t := h
theorem Bk.new (W : World) (cs : Array Value) (t : TypeId) : Bk (W.alloc (.cells cs t)) W.heap.size cs t := by
  show (W.heap.push _)[W.heap.size]? = _
  simp
theorem Bk.new' {W : World} {n : Nat} (h : n = W.heap.size) (cs : Array Value) (t : TypeId) : Bk (W.alloc (.cells cs t)) n cs t := h ▸ Bk.new W cs t
theorem Bk.other {W : World} {n m j : Nat} {cs : Array Value} {t : TypeId} (h : Bk W n cs t) (hm : n ≠ m) (v : Value) : Bk (W.setCell ⟨m, j, none⟩ v) n cs t := by
  rw [Bk, Below.heap_setCell _ _ _ _ hm]; exact h
theorem Bk.set {W : World} {n : Nat} {cs : Array Value} {t : TypeId} (h : Bk W n cs t) (j : Nat) (v : Value) : Bk (W.setCell ⟨n, j, none⟩ v) n (cs.setIfInBounds j v) t := by
  have hlt := h.lt
  have hg : W.heap[n] = .cells cs t (0, 0) := by
    have h' := h
    unfold Bk at h'
    rw [Array.getElem?_eq_getElem hlt] at h'
    exact Option.some.inj h'
  have h' := h
  unfold Bk at h' ⊢
  show (W.heap.modify n _)[n]? = _
  rw [Array.getElem?_modify, if_pos rfl, h']
  rfl
theorem Bk.cell {W : World} {n : Nat} {cs : Array Value} {t : TypeId} (h : Bk W n cs t) (i : Nat) : W.cell? ⟨n, i, none⟩ = cs[i]? := by unfold Bk at h; simp [World.cell?, h]
theorem Bk.free {W : World} {n : Nat} {cs : Array Value} {t : TypeId} (h : Bk W n cs t) (i : Nat) : W.frozen? ⟨n, i, none⟩ = false := by unfold Bk at h; simp [World.frozen?, h]

/-- Values stored one behind the other. -/
def setAll (W : World) (n : Nat) : Nat → List Value → World
  | _, [] => W
  | j, v :: l => setAll (W.setCell ⟨n, j, none⟩ v) n (j + 1) l

theorem Bk.oAll {n m : Nat} {cs : Array Value} {t : TypeId} (hm : n ≠ m) : ∀ (l : List Value) (j : Nat) {W : World}, Bk W n cs t → Bk (setAll W m j l) n cs t
  | [], _, _, h => h
  | v :: l, j, _, h => Bk.oAll hm l (j + 1) (h.other hm v)

def putVals (cs : Array Value) : Nat → List Value → Array Value
  | _, [] => cs
  | j, v :: l => putVals (cs.setIfInBounds j v) (j + 1) l

theorem Bk.sAll {n : Nat} {t : TypeId} : ∀ (l : List Value) (j : Nat) {cs : Array Value} {W : World}, Bk W n cs t → Bk (setAll W n j l) n (putVals cs j l) t
  | [], _, _, _, h => h
  | v :: l, j, _, _, h => Bk.sAll l (j + 1) (h.set j v)

theorem putVals_all : ∀ (l : List Value) (j : Nat) (cs : Array Value), j + l.length = cs.size → putVals cs j l = (cs.toList.take j ++ l).toArray
  | [], j, cs, h => by
    have : cs.toList.length ≤ j := by simp at h ⊢; omega
    rw [putVals, List.take_of_length_le this, List.append_nil]
  | v :: l, j, cs, h => by
    have hj : j < cs.toList.length := by simp at h ⊢; omega
    rw [putVals, putVals_all l (j + 1) _ (by simp at h ⊢; omega), Array.toList_setIfInBounds]
    congr 1
    rw [List.take_succ_eq_append_getElem (by simpa using hj), List.take_set_of_le (Nat.le_refl _), List.getElem_set_self]
    simp
theorem Bk.full {W : World} {n : Nat} {cs : Array Value} {t : TypeId} (h : Bk W n cs t) (l : List Value) (hl : l.length = cs.size) : Bk (setAll W n 0 l) n l.toArray t := by
  have := h.sAll l 0
  rw [putVals_all l 0 cs (by omega)] at this
  simpa using this

theorem setAll_size (n : Nat) : ∀ (l : List Value) (j : Nat) (W : World), (setAll W n j l).heap.size = W.heap.size
  | [], _, _ => rfl
  | v :: l, j, W => by rw [setAll, setAll_size n l]; simp [World.setCell]

theorem below_setAll {B n : Nat} {a : World} (hn : B ≤ n) : ∀ (l : List Value) (j : Nat) {W : World}, Below B a W → Below B a (setAll W n j l)
  | [], _, _, h => h
  | v :: l, j, _, h => below_setAll hn l (j + 1) (h.setCell hn v)

/-- What a function has made so far: nothing below w's size has changed. -/
structure Mk0 (w : World) (m : Nat) (W : World) : Prop where
  b : Below w.heap.size w W
  g : m ≤ W.heap.size
theorem Mk0.on {w W W' : World} {m : Nat} (h : Mk0 w m W) (hb : Below W.heap.size W W') : Mk0 w m W' := ⟨h.b.trans (hb.mono h.b.size), Nat.le_trans h.g hb.size⟩
theorem Mk0.al {w W : World} {m : Nat} (h : Mk0 w m W) (o : Obj) : Mk0 w m (W.alloc o) := ⟨h.b.alloc h.b.size o, by have := h.g; simp; omega⟩
theorem Mk0.drew {w W : World} {m : Nat} (h : Mk0 w m W) : Mk0 w m W.drew := ⟨h.b.drew, h.g⟩
theorem Mk0.sAll {w W : World} {m n : Nat} (h : Mk0 w m W) (hn : w.heap.size ≤ n) (j : Nat) (l : List Value) : Mk0 w m (setAll W n j l) := ⟨below_setAll hn l j h.b, by rw [setAll_size]; exact h.g⟩
theorem Mk0.set {w W : World} {m n j : Nat} (h : Mk0 w m W) (hn : w.heap.size ≤ n) (v : Value) : Mk0 w m (W.setCell ⟨n, j, none⟩ v) := ⟨h.b.setCell hn v, by simpa [World.setCell] using h.g⟩

/-- A list of blocks, each known whole. -/
def Bks (W : World) : List (Nat × Array Value × TypeId) → Prop
  | [] => True
  | x :: l => Bk W x.1 x.2.1 x.2.2 ∧ Bks W l
theorem Bks.on {W W' : World} (hb : Below W.heap.size W W') : ∀ {l}, Bks W l → Bks W' l
  | [], _ => trivial
  | _ :: _, h => ⟨h.1.on hb, Bks.on hb h.2⟩
theorem Bks.al {W : World} (o : Obj) : ∀ {l}, Bks W l → Bks (W.alloc o) l
  | [], _ => trivial
  | _ :: _, h => ⟨h.1.al o, Bks.al o h.2⟩
theorem Bks.drew {W : World} : ∀ {l}, Bks W l → Bks W.drew l
  | [], _ => trivial
  | _ :: _, h => ⟨h.1.drew, Bks.drew h.2⟩
def Outside (n : Nat) : List (Nat × Array Value × TypeId) → Prop
  | [] => True
  | x :: l => x.1 ≠ n ∧ Outside n l
theorem Bks.oAll {m : Nat} (vs : List Value) (j : Nat) {W : World} : ∀ {l}, Outside m l → Bks W l → Bks (setAll W m j vs) l
  | [], _, _ => trivial
  | _ :: _, o, h => ⟨Bk.oAll o.1 vs j h.1, Bks.oAll vs j o.2 h.2⟩
theorem Bks.other {m j : Nat} (v : Value) {W : World} : ∀ {l}, Outside m l → Bks W l → Bks (W.setCell ⟨m, j, none⟩ v) l
  | [], _, _ => trivial
  | _ :: _, o, h => ⟨h.1.other o.1 v, Bks.other v o.2 h.2⟩
def Under (m : Nat) : List (Nat × Array Value × TypeId) → Prop
  | [] => True
  | x :: l => x.1 < m ∧ Under m l
theorem Under.outside {m n : Nat} (h : m ≤ n) : ∀ {l}, Under m l → Outside n l
  | [], _ => trivial
  | _ :: _, u => ⟨by have := u.1; omega, Under.outside h u.2⟩
theorem Bks.under {W : World} {m : Nat} (hm : W.heap.size ≤ m) : ∀ {l}, Bks W l → Under m l
  | [], _ => trivial
  | _ :: _, h => ⟨Nat.lt_of_lt_of_le h.1.lt hm, Bks.under hm h.2⟩
/-- The cells, as the walk uses them. -/
def Rules (W : World) : List (Nat × Array Value × TypeId) → Prop
  | [] => True
  | x :: l => ((∀ i, W.cell? ⟨x.1, i, none⟩ = x.2.1[i]?) ∧ (∀ i, W.frozen? ⟨x.1, i, none⟩ = false)) ∧ Rules W l
theorem Bks.rules {W : World} : ∀ {l}, Bks W l → Rules W l
  | [], _ => trivial
  | _ :: _, h => ⟨⟨h.1.cell, h.1.free⟩, Bks.rules h.2⟩

theorem start_region {w W : World} {l : List (Nat × Array Value × TypeId)} (hb : Below w.heap.size w W) (hB : Bks W l) : ∃ m, Mk0 w m W ∧ Under m l ∧ w.heap.size ≤ m :=
  ⟨W.heap.size, ⟨hb, Nat.le_refl _⟩, hB.under (Nat.le_refl _), hb.size⟩

def pblk : Value → Nat
  | .pointer (some a) => a.block
  | .slice (some a) _ _ => a.block
  | _ => 0
theorem lt_of_either {W : World} {n : Nat} {cs cs' : Array Value} {t t' : TypeId} {c : Bool} (h : c = false → Bk W n cs t) (k : c = true → Bk W n cs' t') : n < W.heap.size := by
  cases c
  · exact (h rfl).lt
  · exact (k rfl).lt
theorem no_of {p : Prop} (h : true = false) : p := by cases h
theorem no_of' {p : Prop} (h : false = true) : p := by cases h

end Go.Proofs.Ytlokjiniigfaiaa
