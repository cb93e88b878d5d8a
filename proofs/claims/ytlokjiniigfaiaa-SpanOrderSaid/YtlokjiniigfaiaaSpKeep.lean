/- What is kept in a region whose calls, allocations and stores come in whatever order. -/
import Derived.Test.YtlokjiniigfaiaaSpPair
import Derived.Deep.DeepCutAuto
set_option linter.unusedVariables false
set_option linter.unusedSimpArgs false
namespace Go.Proofs.Ytlokjiniigfaiaa
open Go.ChangeShapes Go.WideShapes Go.ChangeAt Go.RowKit

structure Kep (w : World) (k : Nat) (w' : World) : Prop where
  b : Below w.heap.size w w'
  s : w.heap.size + k ≤ w'.heap.size
theorem Kep.on {w w1 w2 : World} {k : Nat} (h : Kep w k w1) (hb : Below w1.heap.size w1 w2) : Kep w k w2 := ⟨h.b.trans (hb.mono h.b.size), Nat.le_trans h.s hb.size⟩
theorem Kep.al {w w1 : World} {k : Nat} (h : Kep w k w1) (o : Obj) : Kep w k (w1.alloc o) := ⟨h.b.alloc h.b.size o, by have := h.s; simp; omega⟩
theorem Kep.drew {w w1 : World} {k : Nat} (h : Kep w k w1) : Kep w k w1.drew := ⟨h.b.drew, h.s⟩
theorem Kep.set {w w1 : World} {k n j : Nat} (h : Kep w k w1) (hn : w.heap.size ≤ n) (v : Value) : Kep w k (w1.setCell ⟨n, j, none⟩ v) := ⟨h.b.setCell hn v, by simpa [World.setCell] using h.s⟩

theorem ResB.put {w : World} {n : Nat} (h : ResB w n) (u0 u1 u2 u3 u4 : Value) : ∀ i, (((((w.setCell ⟨n, 0, none⟩ u0).setCell ⟨n, 1, none⟩ u1).setCell ⟨n, 2, none⟩ u2).setCell ⟨n, 3, none⟩ u3).setCell ⟨n, 4, none⟩ u4).cell? ⟨n, i, none⟩ = #[u0, u1, u2, u3, u4][i]? := by
  obtain ⟨v0, v1, v2, v3, v4, t, h⟩ := h
  exact cell_of (setCell_heap _ n 4 _ _ t (setCell_heap _ n 3 _ _ t (setCell_heap _ n 2 _ _ t (setCell_heap _ n 1 _ _ t (setCell_heap _ n 0 _ _ t h)))))
theorem ResB.seto {w : World} {n m j : Nat} (h : ResB w n) (v : Value) (hm : n ≠ m) : ResB (w.setCell ⟨m, j, none⟩ v) n := by
  obtain ⟨v0, v1, v2, v3, v4, t, h⟩ := h
  exact ⟨v0, v1, v2, v3, v4, t, by rw [Below.heap_setCell _ _ _ _ hm]; exact h⟩
theorem Kept.seto {w w1 : World} {n m j : Nat} (h : Kept w n w1) (hb : w.heap.size ≤ m) (v : Value) (hm : n ≠ m) : Kept w n (w1.setCell ⟨m, j, none⟩ v) := ⟨h.b.setCell hb v, h.r.seto v hm, h.h, by simpa [World.setCell] using h.s⟩
theorem Kept.set5o {w w1 : World} {n : Nat} (h : Kept w n w1) (m : Nat) (u0 u1 u2 u3 u4 : Value) (hm : w.heap.size ≤ m ∧ n ≠ m) :
    Kept w n (((((w1.setCell ⟨m, 0, none⟩ u0).setCell ⟨m, 1, none⟩ u1).setCell ⟨m, 2, none⟩ u2).setCell ⟨m, 3, none⟩ u3).setCell ⟨m, 4, none⟩ u4) :=
  ((((h.seto hm.1 u0 hm.2).seto hm.1 u1 hm.2).seto hm.1 u2 hm.2).seto hm.1 u3 hm.2).seto hm.1 u4 hm.2
theorem Kep.set5 {w w1 : World} {k n : Nat} (h : Kep w k w1) (u0 u1 u2 u3 u4 : Value) (hn : w.heap.size ≤ n) : Kep w k (((((w1.setCell ⟨n, 0, none⟩ u0).setCell ⟨n, 1, none⟩ u1).setCell ⟨n, 2, none⟩ u2).setCell ⟨n, 3, none⟩ u3).setCell ⟨n, 4, none⟩ u4) :=
  ((((h.set hn u0).set hn u1).set hn u2).set hn u3).set hn u4

theorem region_start {P : Program} {id : Nat} {ops : Array Oper} {Q : Exit → Act → World → Prop} {S : World → Prop} {a : Act} {w : World} (hm : P.follows .mixedOrders = true) (hS : S w.drew)
    (h : ∀ v, S v → wpAnyH P .any ops Q S ops.size (Array.replicate ops.size false) a v) : (Code.region id ops true).wp P Q a w := wp_region_held_drew hm hS (h _)
theorem region_start2 {P : Program} {id : Nat} {ops : Array Oper} {Q : Exit → Act → World → Prop} {S F : World → Prop} {a : Act} {w : World} (hm : P.follows .mixedOrders = true) (hS : S w.drew) (hF : F w.drew)
    (h : ∀ v, S v → F v → wpAnyH P .any ops Q S ops.size (Array.replicate ops.size false) a v) : (Code.region id ops true).wp P Q a w := wp_region_held_drew hm hS (fun hS => h _ hS hF)

theorem abs_G (a n : Int) (h : -4611686018427387904 ≤ a ∧ a ≤ 4611686018427387904) (hn : absS a = n) : Hid (∀ w', Calls Try.prog 50 #[.int .i64 a] w' fun e w2 => e = .returned (.int .i64 n) ∧ Below w'.heap.size w' w2) :=
  Lib.hid fun w' => (abs_is a (by omega) w').mono fun e w2 ⟨h1, h2⟩ => ⟨hn ▸ h1, h2 ▸ Below.refl _ _⟩

end Go.Proofs.Ytlokjiniigfaiaa
