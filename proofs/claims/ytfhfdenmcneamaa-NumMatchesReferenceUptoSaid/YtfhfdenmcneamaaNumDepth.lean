/- The contracts of num.operands, num.parts, num.Depth and num.DepthC. -/
import Derived.Test.YtfhfdenmcneamaaNumEval
set_option linter.unusedVariables false
set_option linter.unusedSimpArgs false
namespace Go.Proofs.Ytfhfdenmcneamaa
open Go.ChangeShapes Go.WideShapes Go.ChangeAt Go.RowKit

theorem ExsV.take {w : World} {l : List Ex} {a : Option Addr} {cap : Nat} (n : Nat) (h : ExsV w l a cap) : ExsV w (l.take n) a cap := by
  cases h with
  | empty _ _ hc ha => simpa using ExsV.empty a cap hc ha
  | row _ b off _ ka kc hl hc hx hk =>
    refine .row _ b off cap ka kc (by simp; omega) hc ?_ ?_
    · intro i hi
      simp only [List.length_take] at hi
      simpa using hx i (by omega)
    · intro i hi
      simp only [List.length_take] at hi
      simpa using hk i (by omega)

theorem CosV.take {w : World} {l : List Co} {a : Option Addr} {cap : Nat} (n : Nat) (h : CosV w l a cap) : CosV w (l.take n) a cap := by
  cases h with
  | empty _ _ hc ha => simpa using CosV.empty a cap hc ha
  | row _ b off _ xa ka xc kc hl hc hx he hk =>
    refine .row _ b off cap xa ka xc kc (by simp; omega) hc ?_ ?_ ?_
    · intro i hi
      simp only [List.length_take] at hi
      simpa using hx i (by omega)
    · intro i hi
      simp only [List.length_take] at hi
      simpa using he i (by omega)
    · intro i hi
      simp only [List.length_take] at hi
      simpa using hk i (by omega)

set_option maxHeartbeats 400000 in
theorem operands_raw (op nn v : Int) (a : Option Addr) (n cap : Nat) (hn : n ≤ cap) (hc : cap ≤ maxLen) (ha : a = none → cap = 0) (h4 : 4 ≤ op) (h10 : op ≤ 10) (w : World) :
    Calls Try.prog 54 #[.agg #[.int .i64 op, .int .i64 nn, .int .i64 v, .slice a n cap]] w fun e w' => e = .returned (.slice a (min n 2) cap) ∧ Below w.heap.size w w' := by
  have hbin : decide (4 ≤ op ∧ op ≤ 10) = true := by simp; omega
  unfold maxLen at hc
  cases a with
  | none =>
    obtain rfl := ha rfl
    obtain rfl : n = 0 := by omega
    go_enter Try.func54, Try.ntmps54
    go_wp2_with (go_at_call 43; refine (binary_any _ _).mono ?_; rintro e w' ⟨rfl, rfl⟩)
    go_ret
    exact ⟨rfl, (Below.refl _ _).alloc (Nat.le_refl _) _⟩
  | some p =>
    clear ha
    by_cases h : n ≤ 2
    · have h2 : ¬ 2 < (n : Int) := by omega
      have h3 : min n 2 = n := by omega
      have H3 := Lib.hid h3
      clear h3
      go_enter Try.func54, Try.ntmps54
      go_wp2_with (go_at_call 43; refine (binary_any _ _).mono ?_; rintro e w' ⟨rfl, rfl⟩)
      go_ret
      exact ⟨by rw [H3.out]; rfl, (Below.refl _ _).alloc (Nat.le_refl _) _⟩
    · have h2 : 2 < (n : Int) := by omega
      have h3 : min n 2 = 2 := by omega
      have H3 := Lib.hid h3
      clear h3
      go_enter Try.func54, Try.ntmps54
      go_wp2_with (go_at_call 43; refine (binary_any _ _).mono ?_; rintro e w' ⟨rfl, rfl⟩)
      go_ret
      exact ⟨by rw [H3.out]; rfl, (Below.refl _ _).alloc (Nat.le_refl _) _⟩

theorem operands_no (op nn v : Int) (s : Value) (ho : ¬ (4 ≤ op ∧ op ≤ 10)) (w : World) :
    Calls Try.prog 54 #[.agg #[.int .i64 op, .int .i64 nn, .int .i64 v, s]] w fun e w' => e = .returned (.slice none 0 0) ∧ Below w.heap.size w w' := by
  have hbin : decide (4 ≤ op ∧ op ≤ 10) = false := by simp; omega
  clear ho
  go_enter Try.func54, Try.ntmps54
  go_wp2_with (go_at_call 43; refine (binary_any _ _).mono ?_; rintro e w' ⟨rfl, rfl⟩)
  go_ret
  exact ⟨rfl, (Below.refl _ _).alloc (Nat.le_refl _) _⟩

def OpndsPost (e : Ex) (w : World) (r : Ending) (w' : World) : Prop :=
  ∃ a cap, r = .returned (.slice a (opnds e).length cap) ∧ ExsV w' (opnds e) a cap ∧ Below w.heap.size w w'

theorem operands_any (e : Ex) (a : Option Addr) (cap : Nat) (w : World) (h : ExsV w e.a a cap) :
    Calls Try.prog 54 #[exVal e a cap] w (OpndsPost e w) := by
  by_cases hb : 4 ≤ e.op ∧ e.op ≤ 10
  · have ho : opnds e = e.a.take 2 := by unfold opnds; rw [if_pos hb]
    have hn : a = none → cap = 0 := h.nil_cap
    refine (operands_raw e.op e.n e.v a e.a.length cap h.cap_le.1 h.cap_le.2 hn hb.1 hb.2 w).mono ?_
    rintro r w' ⟨rfl, hw⟩
    refine ⟨a, cap, ?_, ?_, hw⟩
    · rw [ho, List.length_take, Nat.min_comm]
    · rw [ho]; exact (h.take 2).keep (keepsOf hw)
  · have ho : opnds e = [] := by unfold opnds; rw [if_neg hb]
    refine (operands_no e.op e.n e.v _ hb w).mono ?_
    rintro r w' ⟨rfl, hw⟩
    refine ⟨none, 0, ?_, ?_, hw⟩
    · rw [ho]; rfl
    · rw [ho]; exact .empty none 0 (by unfold maxLen; omega) (fun _ => rfl)

theorem max_if (a b : Nat) : max a b = if a < b then b else a := by split <;> omega

set_option maxHeartbeats 1000000 in
theorem depth_any (k : Nat) : ∀ (e : Ex) (_ : e.nodes ≤ k) (_ : e.nodes ≤ 1099511627776) (a : Option Addr) (cap : Nat) (w : World), ExsV w e.a a cap →
    Calls Try.prog 30 #[exVal e a cap] w fun r w' => r = .returned (.int .i64 (depthE e)) ∧ Below w.heap.size w w' := by
  induction k with
  | zero => intro e he; have := e.nodes_pos; omega
  | succ k ih =>
    intro e he hbig a cap w h
    have Hd := Lib.hid (depthE_eq e)
    have Hn := Lib.hid (fun x (hx : x ∈ opnds e) => Ex.nodes_lt (opnds_sub hx))
    have HS := Lib.hid h
    have IH := Lib.hid ih
    clear h ih
    unfold exVal
    go_enter Try.func30, Try.ntmps30
    go_wp2_with fail
    refine (operands_any e a cap _ (HS.out.keep (Keeps.alloc _ _))).mono ?_
    rintro r w1 ⟨oa, oc, rfl, hx, hb⟩
    have HX := Lib.hid hx
    clear hx
    have hb0 : Below w.heap.size w w1 := ((Below.refl _ _).alloc (Nat.le_refl _) _).trans (hb.mono (by simp))
    clear hb
    go_wp2_with fail
    go_loopw [3, 9] (fun n i wr => ∃ k : Nat, k ≤ (opnds e).length ∧ i = .int .i64 k ∧ n = .int .i64 (maxN (((opnds e).take k).map depthE) : Nat) ∧ Below w1.heap.size w1 wr) (fun _ i _ => (opnds e).length - (intOf i).toNat)
    case atStart => exact ⟨0, Nat.zero_le _, rfl, rfl, Below.refl _ _⟩
    case round =>
      obtain ⟨j, hj, rfl, rfl, hw⟩ := hrel
      by_cases hlt : j < (opnds e).length
      · obtain ⟨b, off, ya, yc, rfl, hc, hk⟩ := (HX.out.keep (keepsOf hw)).elem j hlt
        have hm := maxN_take depthE (opnds e) j hlt
        have hnode := Hn.out _ (List.getElem_mem hlt)
        have hd1 := depthE_nodes (opnds e)[j]
        have hl1 : maxN (((opnds e).take j).map depthE) ≤ e.nodes := maxN_le (by
          intro x hx
          obtain ⟨y, hy, rfl⟩ := List.mem_map.1 hx
          have := depthE_nodes y
          have := Hn.out y (List.mem_of_mem_take hy)
          omega)
        have HM := Lib.hid hm
        clear hm
        have IHj := Lib.hid (IH.out (opnds e)[j] (by omega) (by omega) ya yc)
        generalize (opnds e)[j] = x at *
        generalize maxN (((opnds e).take j).map depthE) = m at *
        obtain ⟨h0, h1, h2, h3⟩ := hc
        have lb := World.block_lt_of_cell? wr _ h0
        have hlen : (opnds e).length ≤ 9223372036854775807 := Nat.le_trans HX.out.cap_le.1 HX.out.cap_le.2
        have HK := Lib.hid hk
        clear hk
        by_cases hmx : m < depthE x
        all_goals
          go_wp2_with (go_at_call 30; refine (IHj.out _ (HK.out.keep (Keeps.alloc _ _))).mono ?_; rintro r w2 ⟨rfl, hb⟩)
          go_roundw
          case rel => exact ⟨j + 1, by omega, by go_num, by rw [HM.out]; first | (rw [Nat.max_eq_right (by omega)]) | (rw [Nat.max_eq_left (by omega)]), (hw.alloc hw.size _).trans (hb.mono (by have := hw.size; simp; omega))⟩
          case measure => simp [intOf]; omega
      · have hj' : j = (opnds e).length := by omega
        have hl1 : maxN ((opnds e).map depthE) ≤ e.nodes := maxN_le (by
          intro x hx
          obtain ⟨y, hy, rfl⟩ := List.mem_map.1 hx
          have := depthE_nodes y
          have := Hn.out y hy
          omega)
        have ht : (opnds e).take j = opnds e := List.take_of_length_le (by omega)
        rw [ht]
        clear ht
        generalize maxN ((opnds e).map depthE) = m at *
        go_wp2_with fail
        go_ret
        exact ⟨ret_int (by rw [Hd.out]; omega), hb0.trans (hw.mono hb0.size)⟩

end Go.Proofs.Ytfhfdenmcneamaa
