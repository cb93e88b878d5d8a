/- Contracts of num.at at expressions, conditions and whole numbers. -/
import Derived.Test.YtfhfdenmcneamaaRows
import Derived.Test.YtfhfdenmcneamaaBase
import Derived.Test.YtfhfdenmcneamaaTree
import Derived.Outline
import Derived.Lib.Hide
set_option linter.unusedVariables false
set_option linter.unusedSimpArgs false
namespace Go.Proofs.Ytfhfdenmcneamaa
open Go.ChangeShapes Go.WideShapes Go.ChangeAt Go.RowKit

set_option maxHeartbeats 400000 in
theorem atI_in (b off n cap : Nat) (i x : Int) (h1 : 0 ≤ i) (h2 : i < (n : Int)) (hn : n ≤ maxLen) (w : World) (hc : w.cell? ⟨b, off + i.toNat, none⟩ = some (.int .i64 x)) :
    Calls Try.prog 42 #[.slice (some ⟨b, off, none⟩) n cap, .int .i64 i] w fun e w' => e = .returned (.int .i64 x) ∧ w = w' := by
  unfold maxLen at hn
  go_enter Try.func42, Try.ntmps42
  go_wp2
  go_ret
  exact ⟨rfl, rfl⟩

set_option maxHeartbeats 400000 in
theorem atI_out (a : Option Addr) (n cap : Nat) (i : Int) (hi : i < 0 ∨ (n : Int) ≤ i) (w : World) :
    Calls Try.prog 42 #[.slice a n cap, .int .i64 i] w fun e w' => e = .returned (.int .i64 0) ∧ w = w' := by
  by_cases h : i < 0
  · have hd : decide (0 ≤ i) = false := by simp; omega
    go_enter Try.func42, Try.ntmps42
    go_wp2
    go_ret
    exact ⟨rfl, rfl⟩
  · have h1 : 0 ≤ i := by omega
    have h2 : ¬ i < (n : Int) := by omega
    go_enter Try.func42, Try.ntmps42
    go_wp2
    go_ret
    exact ⟨rfl, rfl⟩

set_option maxHeartbeats 400000 in
theorem atE_in (b off n cap : Nat) (i op nn v : Int) (sa : Option Addr) (sn sc : Nat) (h5 : 0 ≤ i) (h6 : i < (n : Int)) (hn : n ≤ maxLen) (w : World)
    (hx : ExCells w b (off + i.toNat * 4) op nn v (.slice sa sn sc)) :
    Calls Try.prog 39 #[.slice (some ⟨b, off, none⟩) n cap, .int .i64 i] w fun e w' => e = .returned (.agg #[.int .i64 op, .int .i64 nn, .int .i64 v, .slice sa sn sc]) ∧ w' = w.alloc (.cells #[.int .i64 op, .int .i64 nn, .int .i64 v, .slice sa sn sc] 29) := by
  obtain ⟨h0, h1, h2, h3⟩ := hx
  unfold maxLen at hn
  have lb := World.block_lt_of_cell? w _ h0
  go_enter Try.func39, Try.ntmps39
  go_wp2
  exact bodyPost_ret (v := .agg #[.int .i64 op, .int .i64 nn, .int .i64 v, .slice sa sn sc]) (by simp [results, Try.results39, go_sem]) rfl ⟨rfl, rfl⟩

set_option maxHeartbeats 400000 in
theorem atE_out (a : Option Addr) (n cap : Nat) (i : Int) (hi : i < 0 ∨ (n : Int) ≤ i) (w : World) :
    Calls Try.prog 39 #[.slice a n cap, .int .i64 i] w fun e w' => e = .returned (.agg #[.int .i64 0, .int .i64 0, .int .i64 0, .slice none 0 0]) ∧ w' = w.alloc (.cells #[.int .i64 0, .int .i64 0, .int .i64 0, .slice none 0 0] 29) := by
  by_cases h : i < 0
  · have hd : decide (0 ≤ i) = false := by simp; omega
    go_enter Try.func39, Try.ntmps39
    go_wp2
    exact bodyPost_ret (v := .agg #[.int .i64 0, .int .i64 0, .int .i64 0, .slice none 0 0]) (by simp [results, Try.results39, go_sem]) rfl ⟨rfl, rfl⟩
  · have h1 : 0 ≤ i := by omega
    have h2 : ¬ i < (n : Int) := by omega
    go_enter Try.func39, Try.ntmps39
    go_wp2
    exact bodyPost_ret (v := .agg #[.int .i64 0, .int .i64 0, .int .i64 0, .slice none 0 0]) (by simp [results, Try.results39, go_sem]) rfl ⟨rfl, rfl⟩

set_option maxHeartbeats 400000 in
theorem atC_in (b off n cap : Nat) (i op : Int) (sa : Option Addr) (sn sc : Nat) (ta : Option Addr) (tn tc : Nat) (h5 : 0 ≤ i) (h6 : i < (n : Int)) (hn : n ≤ maxLen) (w : World)
    (hx : CoCells w b (off + i.toNat * 3) op (.slice sa sn sc) (.slice ta tn tc)) :
    Calls Try.prog 41 #[.slice (some ⟨b, off, none⟩) n cap, .int .i64 i] w fun e w' => e = .returned (.agg #[.int .i64 op, .slice sa sn sc, .slice ta tn tc]) ∧ w' = w.alloc (.cells #[.int .i64 op, .slice sa sn sc, .slice ta tn tc] 34) := by
  obtain ⟨h0, h1, h2⟩ := hx
  unfold maxLen at hn
  have lb := World.block_lt_of_cell? w _ h0
  go_enter Try.func41, Try.ntmps41
  go_wp2
  exact bodyPost_ret (v := .agg #[.int .i64 op, .slice sa sn sc, .slice ta tn tc]) (by simp [results, Try.results41, go_sem]) rfl ⟨rfl, rfl⟩

set_option maxHeartbeats 400000 in
theorem atC_out (a : Option Addr) (n cap : Nat) (i : Int) (hi : i < 0 ∨ (n : Int) ≤ i) (w : World) :
    Calls Try.prog 41 #[.slice a n cap, .int .i64 i] w fun e w' => e = .returned (.agg #[.int .i64 0, .slice none 0 0, .slice none 0 0]) ∧ w' = w.alloc (.cells #[.int .i64 0, .slice none 0 0, .slice none 0 0] 34) := by
  by_cases h : i < 0
  · have hd : decide (0 ≤ i) = false := by simp; omega
    go_enter Try.func41, Try.ntmps41
    go_wp2
    exact bodyPost_ret (v := .agg #[.int .i64 0, .slice none 0 0, .slice none 0 0]) (by simp [results, Try.results41, go_sem]) rfl ⟨rfl, rfl⟩
  · have h1 : 0 ≤ i := by omega
    have h2 : ¬ i < (n : Int) := by omega
    go_enter Try.func41, Try.ntmps41
    go_wp2
    exact bodyPost_ret (v := .agg #[.int .i64 0, .slice none 0 0, .slice none 0 0]) (by simp [results, Try.results41, go_sem]) rfl ⟨rfl, rfl⟩


/-! ### The same, of lists -/

def AtIPost (l : List Int) (i : Int) (w : World) (e : Ending) (w' : World) : Prop := e = .returned (.int .i64 (getI l i)) ∧ w = w'

theorem at_int (l : List Int) (a : Option Addr) (cap : Nat) (i : Int) (w : World) (h : IntsV w l a cap) :
    Calls Try.prog 42 #[.slice a l.length cap, .int .i64 i] w fun e w' => e = .returned (.int .i64 (getI l i)) ∧ w = w' := by
  by_cases hi : 0 ≤ i ∧ i < (l.length : Int)
  · obtain ⟨b, off, rfl, hc⟩ := h.2.2.2 (by omega)
    have hg : getI l i = l[i.toNat]'(by omega) := by unfold getI; rw [if_pos hi.1]; simp [List.getElem?_eq_getElem (show i.toNat < l.length by omega)]
    rw [hg]
    exact atI_in b off l.length cap i _ hi.1 hi.2 (Nat.le_trans h.1 h.2.1) w (hc i.toNat (by omega))
  · have hg : getI l i = 0 := by
      unfold getI
      by_cases h0 : 0 ≤ i
      · rw [if_pos h0]; simp [List.getElem?_eq_none (show l.length ≤ i.toNat by omega)]
      · rw [if_neg h0]
    rw [hg]
    exact atI_out a l.length cap i (by omega) w

/-- What 'at' gives: an element by value; the block that it lays is new. -/
def AtEPost (l : List Ex) (i : Int) (w : World) (e : Ending) (w' : World) : Prop :=
  ∃ xa xc, e = .returned (exVal (getE l i) xa xc) ∧ ExsV w' (getE l i).a xa xc ∧ Below w.heap.size w w'

theorem at_ex (l : List Ex) (a : Option Addr) (cap : Nat) (i : Int) (w : World) (h : ExsV w l a cap) :
    Calls Try.prog 39 #[.slice a l.length cap, .int .i64 i] w (AtEPost l i w) := by
  by_cases hi : 0 ≤ i ∧ i < (l.length : Int)
  · have hg : getE l i = l[i.toNat]'(by omega) := by unfold getE; rw [if_pos hi.1]; simp [List.getElem?_eq_getElem (show i.toNat < l.length by omega)]
    cases h with
    | empty => simp at hi; omega
    | row _ b off _ ka kc hl hc hx hk =>
      refine (atE_in b off l.length cap i _ _ _ _ _ _ hi.1 hi.2 (Nat.le_trans hl hc) w (hx i.toNat (by omega))).mono ?_
      rintro e w' ⟨rfl, rfl⟩
      refine ⟨ka i.toNat, kc i.toNat, ?_, ?_, (Below.refl _ _).alloc (Nat.le_refl _) _⟩
      · rw [hg]; rfl
      · rw [hg]; exact (hk i.toNat (by omega)).keep (Keeps.alloc _ _)
  · have hg : getE l i = exNone := by
      unfold getE
      by_cases h0 : 0 ≤ i
      · rw [if_pos h0]; simp [List.getElem?_eq_none (show l.length ≤ i.toNat by omega)]
      · rw [if_neg h0]
    refine (atE_out a l.length cap i (by omega) w).mono ?_
    rintro e w' ⟨rfl, rfl⟩
    refine ⟨none, 0, ?_, ?_, (Below.refl _ _).alloc (Nat.le_refl _) _⟩
    · rw [hg]; rfl
    · rw [hg]; exact .empty none 0 (by unfold maxLen; omega) (fun _ => rfl)

def AtCPost (l : List Co) (i : Int) (w : World) (e : Ending) (w' : World) : Prop :=
  ∃ xa xc ka kc, e = .returned (coVal (getC l i) xa xc ka kc) ∧ CoV w' (getC l i) xa xc ka kc ∧ Below w.heap.size w w'

theorem at_co (l : List Co) (a : Option Addr) (cap : Nat) (i : Int) (w : World) (h : CosV w l a cap) :
    Calls Try.prog 41 #[.slice a l.length cap, .int .i64 i] w (AtCPost l i w) := by
  by_cases hi : 0 ≤ i ∧ i < (l.length : Int)
  · have hg : getC l i = l[i.toNat]'(by omega) := by unfold getC; rw [if_pos hi.1]; simp [List.getElem?_eq_getElem (show i.toNat < l.length by omega)]
    cases h with
    | empty => simp at hi; omega
    | row _ b off _ xa ka xc kc hl hc hx he hk =>
      refine (atC_in b off l.length cap i _ _ _ _ _ _ _ hi.1 hi.2 (Nat.le_trans hl hc) w (hx i.toNat (by omega))).mono ?_
      rintro e w' ⟨rfl, rfl⟩
      refine ⟨xa i.toNat, xc i.toNat, ka i.toNat, kc i.toNat, ?_, ?_, (Below.refl _ _).alloc (Nat.le_refl _) _⟩
      · rw [hg]; rfl
      · rw [hg]; exact ⟨(he i.toNat (by omega)).keep (Keeps.alloc _ _), (hk i.toNat (by omega)).keep (Keeps.alloc _ _)⟩
  · have hg : getC l i = coNone := by
      unfold getC
      by_cases h0 : 0 ≤ i
      · rw [if_pos h0]; simp [List.getElem?_eq_none (show l.length ≤ i.toNat by omega)]
      · rw [if_neg h0]
    refine (atC_out a l.length cap i (by omega) w).mono ?_
    rintro e w' ⟨rfl, rfl⟩
    refine ⟨none, 0, none, 0, ?_, ?_, (Below.refl _ _).alloc (Nat.le_refl _) _⟩
    · rw [hg]; rfl
    · rw [hg]; exact ⟨.empty none 0 (by unfold maxLen; omega) (fun _ => rfl), .empty none 0 (by unfold maxLen; omega) (fun _ => rfl)⟩

end Go.Proofs.Ytfhfdenmcneamaa
