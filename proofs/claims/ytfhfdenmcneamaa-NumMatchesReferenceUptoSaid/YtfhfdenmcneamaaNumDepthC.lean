/- The contracts of num.parts and num.DepthC. -/
import Derived.Test.YtfhfdenmcneamaaNumDepth
import Derived.Deep.QuietTactic
import Derived.BigQuiet
set_option linter.unusedVariables false
set_option linter.unusedSimpArgs false
namespace Go.Proofs.Ytfhfdenmcneamaa
open Go.ChangeShapes Go.WideShapes Go.ChangeAt Go.RowKit

set_option maxHeartbeats 400000 in
theorem parts_2 (a ca : Option Addr) (n cap cn ccap : Nat) (hn : n ≤ cap) (hc : cap ≤ maxLen) (ha : a = none → cap = 0) (w : World) :
    Calls Try.prog 44 #[.agg #[.int .i64 2, .slice a n cap, .slice ca cn ccap]] w fun e w' => e = .returned (.tuple #[.slice a (min n 2) cap, .slice none 0 0]) ∧ Below w.heap.size w w' := by
  unfold maxLen at hc
  cases a with
  | none =>
    obtain rfl := ha rfl
    obtain rfl : n = 0 := by omega
    go_enter Try.func44, Try.ntmps44
    go_wp2
    go_ret2
    exact ⟨rfl, (Below.refl _ _).alloc (Nat.le_refl _) _⟩
  | some p =>
    clear ha
    by_cases h : n ≤ 2
    · have h2 : ¬ 2 < (n : Int) := by omega
      have h3 : min n 2 = n := by omega
      have H3 := Lib.hid h3
      clear h3
      go_enter Try.func44, Try.ntmps44
      go_wp2
      go_ret2
      exact ⟨by first | rfl | (rw [H3.out]; rfl), (Below.refl _ _).alloc (Nat.le_refl _) _⟩
    · have h2 : 2 < (n : Int) := by omega
      have h3 : min n 2 = 2 := by omega
      have H3 := Lib.hid h3
      clear h3
      go_enter Try.func44, Try.ntmps44
      go_wp2
      go_ret2
      exact ⟨by first | rfl | (rw [H3.out]; rfl), (Below.refl _ _).alloc (Nat.le_refl _) _⟩

set_option maxHeartbeats 400000 in
theorem parts_3 (a ca : Option Addr) (n cap cn ccap : Nat) (hn : n ≤ cap) (hc : cap ≤ maxLen) (ha : a = none → cap = 0) (w : World) :
    Calls Try.prog 44 #[.agg #[.int .i64 3, .slice a n cap, .slice ca cn ccap]] w fun e w' => e = .returned (.tuple #[.slice a (min n 2) cap, .slice none 0 0]) ∧ Below w.heap.size w w' := by
  unfold maxLen at hc
  cases a with
  | none =>
    obtain rfl := ha rfl
    obtain rfl : n = 0 := by omega
    go_enter Try.func44, Try.ntmps44
    go_wp2
    go_ret2
    exact ⟨rfl, (Below.refl _ _).alloc (Nat.le_refl _) _⟩
  | some p =>
    clear ha
    by_cases h : n ≤ 2
    · have h2 : ¬ 2 < (n : Int) := by omega
      have h3 : min n 2 = n := by omega
      have H3 := Lib.hid h3
      clear h3
      go_enter Try.func44, Try.ntmps44
      go_wp2
      go_ret2
      exact ⟨by first | rfl | (rw [H3.out]; rfl), (Below.refl _ _).alloc (Nat.le_refl _) _⟩
    · have h2 : 2 < (n : Int) := by omega
      have h3 : min n 2 = 2 := by omega
      have H3 := Lib.hid h3
      clear h3
      go_enter Try.func44, Try.ntmps44
      go_wp2
      go_ret2
      exact ⟨by first | rfl | (rw [H3.out]; rfl), (Below.refl _ _).alloc (Nat.le_refl _) _⟩

set_option maxHeartbeats 400000 in
theorem parts_4 (a ca : Option Addr) (n cap cn ccap : Nat) (hn : n ≤ cap) (hc : cap ≤ maxLen) (ha : a = none → cap = 0) (w : World) :
    Calls Try.prog 44 #[.agg #[.int .i64 4, .slice a n cap, .slice ca cn ccap]] w fun e w' => e = .returned (.tuple #[.slice a (min n 2) cap, .slice none 0 0]) ∧ Below w.heap.size w w' := by
  unfold maxLen at hc
  cases a with
  | none =>
    obtain rfl := ha rfl
    obtain rfl : n = 0 := by omega
    go_enter Try.func44, Try.ntmps44
    go_wp2
    go_ret2
    exact ⟨rfl, (Below.refl _ _).alloc (Nat.le_refl _) _⟩
  | some p =>
    clear ha
    by_cases h : n ≤ 2
    · have h2 : ¬ 2 < (n : Int) := by omega
      have h3 : min n 2 = n := by omega
      have H3 := Lib.hid h3
      clear h3
      go_enter Try.func44, Try.ntmps44
      go_wp2
      go_ret2
      exact ⟨by first | rfl | (rw [H3.out]; rfl), (Below.refl _ _).alloc (Nat.le_refl _) _⟩
    · have h2 : 2 < (n : Int) := by omega
      have h3 : min n 2 = 2 := by omega
      have H3 := Lib.hid h3
      clear h3
      go_enter Try.func44, Try.ntmps44
      go_wp2
      go_ret2
      exact ⟨by first | rfl | (rw [H3.out]; rfl), (Below.refl _ _).alloc (Nat.le_refl _) _⟩

set_option maxHeartbeats 400000 in
theorem parts_5 (a ca : Option Addr) (n cap cn ccap : Nat) (hn : cn ≤ ccap) (hc : ccap ≤ maxLen) (ha : ca = none → ccap = 0) (w : World) :
    Calls Try.prog 44 #[.agg #[.int .i64 5, .slice a n cap, .slice ca cn ccap]] w fun e w' => e = .returned (.tuple #[.slice none 0 0, .slice ca (min cn 1) ccap]) ∧ Below w.heap.size w w' := by
  unfold maxLen at hc
  cases ca with
  | none =>
    obtain rfl := ha rfl
    obtain rfl : cn = 0 := by omega
    go_enter Try.func44, Try.ntmps44
    go_wp2
    go_quiet (fail)
    go_wp2
    go_ret2
    exact ⟨rfl, below_drewN ((Below.refl _ _).alloc (Nat.le_refl _) _) _⟩
  | some p =>
    clear ha
    by_cases h : cn ≤ 1
    · have h2 : ¬ 1 < (cn : Int) := by omega
      have h3 : min cn 1 = cn := by omega
      have H3 := Lib.hid h3
      clear h3
      go_enter Try.func44, Try.ntmps44
      go_wp2
      go_quiet (fail)
      go_wp2
      go_ret2
      exact ⟨by first | rfl | (rw [H3.out]; rfl), below_drewN ((Below.refl _ _).alloc (Nat.le_refl _) _) _⟩
    · have h2 : 1 < (cn : Int) := by omega
      have h3 : min cn 1 = 1 := by omega
      have H3 := Lib.hid h3
      clear h3
      go_enter Try.func44, Try.ntmps44
      go_wp2
      go_quiet (fail)
      go_wp2
      go_ret2
      exact ⟨by first | rfl | (rw [H3.out]; rfl), below_drewN ((Below.refl _ _).alloc (Nat.le_refl _) _) _⟩

set_option maxHeartbeats 400000 in
theorem parts_6 (a ca : Option Addr) (n cap cn ccap : Nat) (hn : cn ≤ ccap) (hc : ccap ≤ maxLen) (ha : ca = none → ccap = 0) (w : World) :
    Calls Try.prog 44 #[.agg #[.int .i64 6, .slice a n cap, .slice ca cn ccap]] w fun e w' => e = .returned (.tuple #[.slice none 0 0, .slice ca (min cn 2) ccap]) ∧ Below w.heap.size w w' := by
  unfold maxLen at hc
  cases ca with
  | none =>
    obtain rfl := ha rfl
    obtain rfl : cn = 0 := by omega
    go_enter Try.func44, Try.ntmps44
    go_wp2
    go_quiet (fail)
    go_wp2
    go_ret2
    exact ⟨rfl, below_drewN ((Below.refl _ _).alloc (Nat.le_refl _) _) _⟩
  | some p =>
    clear ha
    by_cases h : cn ≤ 2
    · have h2 : ¬ 2 < (cn : Int) := by omega
      have h3 : min cn 2 = cn := by omega
      have H3 := Lib.hid h3
      clear h3
      go_enter Try.func44, Try.ntmps44
      go_wp2
      go_quiet (fail)
      go_wp2
      go_ret2
      exact ⟨by first | rfl | (rw [H3.out]; rfl), below_drewN ((Below.refl _ _).alloc (Nat.le_refl _) _) _⟩
    · have h2 : 2 < (cn : Int) := by omega
      have h3 : min cn 2 = 2 := by omega
      have H3 := Lib.hid h3
      clear h3
      go_enter Try.func44, Try.ntmps44
      go_wp2
      go_quiet (fail)
      go_wp2
      go_ret2
      exact ⟨by first | rfl | (rw [H3.out]; rfl), below_drewN ((Below.refl _ _).alloc (Nat.le_refl _) _) _⟩

set_option maxHeartbeats 400000 in
theorem parts_7 (a ca : Option Addr) (n cap cn ccap : Nat) (hn : cn ≤ ccap) (hc : ccap ≤ maxLen) (ha : ca = none → ccap = 0) (w : World) :
    Calls Try.prog 44 #[.agg #[.int .i64 7, .slice a n cap, .slice ca cn ccap]] w fun e w' => e = .returned (.tuple #[.slice none 0 0, .slice ca (min cn 2) ccap]) ∧ Below w.heap.size w w' := by
  unfold maxLen at hc
  cases ca with
  | none =>
    obtain rfl := ha rfl
    obtain rfl : cn = 0 := by omega
    go_enter Try.func44, Try.ntmps44
    go_wp2
    go_quiet (fail)
    go_wp2
    go_ret2
    exact ⟨rfl, below_drewN ((Below.refl _ _).alloc (Nat.le_refl _) _) _⟩
  | some p =>
    clear ha
    by_cases h : cn ≤ 2
    · have h2 : ¬ 2 < (cn : Int) := by omega
      have h3 : min cn 2 = cn := by omega
      have H3 := Lib.hid h3
      clear h3
      go_enter Try.func44, Try.ntmps44
      go_wp2
      go_quiet (fail)
      go_wp2
      go_ret2
      exact ⟨by first | rfl | (rw [H3.out]; rfl), below_drewN ((Below.refl _ _).alloc (Nat.le_refl _) _) _⟩
    · have h2 : 2 < (cn : Int) := by omega
      have h3 : min cn 2 = 2 := by omega
      have H3 := Lib.hid h3
      clear h3
      go_enter Try.func44, Try.ntmps44
      go_wp2
      go_quiet (fail)
      go_wp2
      go_ret2
      exact ⟨by first | rfl | (rw [H3.out]; rfl), below_drewN ((Below.refl _ _).alloc (Nat.le_refl _) _) _⟩

set_option maxHeartbeats 400000 in
theorem parts_no (op : Int) (ho : op < 2 ∨ 7 < op) (s t : Value) (w : World) :
    Calls Try.prog 44 #[.agg #[.int .i64 op, s, t]] w fun e w' => e = .returned (.tuple #[.slice none 0 0, .slice none 0 0]) ∧ Below w.heap.size w w' := by
  have n2 : (op == 2) = false := by simp; omega
  have n3 : (op == 3) = false := by simp; omega
  have n4 : (op == 4) = false := by simp; omega
  have n5 : (op == 5) = false := by simp; omega
  have n6 : (op == 6) = false := by simp; omega
  have n7 : (op == 7) = false := by simp; omega
  go_enter Try.func44, Try.ntmps44
  go_wp2
  go_ret2
  exact ⟨rfl, (Below.refl _ _).alloc (Nat.le_refl _) _⟩

def PartsPost (c : Co) (w : World) (r : Ending) (w' : World) : Prop :=
  ∃ a cap ca ccap, r = .returned (.tuple #[.slice a (partsA c).length cap, .slice ca (partsC c).length ccap]) ∧ ExsV w' (partsA c) a cap ∧ CosV w' (partsC c) ca ccap ∧ Below w.heap.size w w'

theorem parts_any (c : Co) (xa ka : Option Addr) (xc kc : Nat) (w : World) (h : CoV w c xa xc ka kc) :
    Calls Try.prog 44 #[coVal c xa xc ka kc] w (PartsPost c w) := by
  have eE : ∀ w, ExsV w [] none 0 := fun w => .empty none 0 (by unfold maxLen; omega) (fun _ => rfl)
  have eC : ∀ w, CosV w [] none 0 := fun w => .empty none 0 (by unfold maxLen; omega) (fun _ => rfl)
  by_cases hA : c.op = 2 ∨ c.op = 3 ∨ c.op = 4
  · have hp : partsA c = c.a.take 2 := if_pos hA
    have hq : partsC c = [] := by unfold partsC; rw [if_neg (by omega), if_neg (by omega)]
    have main : Calls Try.prog 44 #[coVal c xa xc ka kc] w fun e w' => e = .returned (.tuple #[.slice xa (min c.a.length 2) xc, .slice none 0 0]) ∧ Below w.heap.size w w' := by
      unfold coVal
      rcases hA with e | e | e
      · rw [e]; exact parts_2 xa ka _ xc _ kc h.a.cap_le.1 h.a.cap_le.2 h.a.nil_cap w
      · rw [e]; exact parts_3 xa ka _ xc _ kc h.a.cap_le.1 h.a.cap_le.2 h.a.nil_cap w
      · rw [e]; exact parts_4 xa ka _ xc _ kc h.a.cap_le.1 h.a.cap_le.2 h.a.nil_cap w
    refine main.mono ?_
    rintro r w' ⟨rfl, hw⟩
    refine ⟨xa, xc, none, 0, ?_, ?_, ?_, hw⟩
    · rw [hp, hq, List.length_take, Nat.min_comm]; rfl
    · rw [hp]; exact (h.a.take 2).keep (keepsOf hw)
    · rw [hq]; exact eC _
  · have hp : partsA c = [] := if_neg hA
    by_cases hC : c.op = 5 ∨ c.op = 6 ∨ c.op = 7
    · have hq : partsC c = c.c.take (if c.op = 5 then 1 else 2) := by
        unfold partsC
        split
        · rfl
        · rw [if_pos (by omega)]
      have main : Calls Try.prog 44 #[coVal c xa xc ka kc] w fun e w' => e = .returned (.tuple #[.slice none 0 0, .slice ka (min c.c.length (if c.op = 5 then 1 else 2)) kc]) ∧ Below w.heap.size w w' := by
        unfold coVal
        rcases hC with e | e | e
        · rw [e]; exact parts_5 xa ka _ xc _ kc h.c.cap_le.1 h.c.cap_le.2 h.c.nil_cap w
        · rw [e]; exact parts_6 xa ka _ xc _ kc h.c.cap_le.1 h.c.cap_le.2 h.c.nil_cap w
        · rw [e]; exact parts_7 xa ka _ xc _ kc h.c.cap_le.1 h.c.cap_le.2 h.c.nil_cap w
      refine main.mono ?_
      rintro r w' ⟨rfl, hw⟩
      refine ⟨none, 0, ka, kc, ?_, ?_, ?_, hw⟩
      · rw [hp, hq, List.length_take, Nat.min_comm]; rfl
      · rw [hp]; exact eE _
      · rw [hq]; exact (h.c.take _).keep (keepsOf hw)
    · have hq : partsC c = [] := by unfold partsC; rw [if_neg (by omega), if_neg (by omega)]
      refine (parts_no c.op (by omega) _ _ w).mono ?_
      rintro r w' ⟨rfl, hw⟩
      refine ⟨none, 0, none, 0, ?_, ?_, ?_, hw⟩
      · rw [hp, hq]; rfl
      · rw [hp]; exact eE _
      · rw [hq]; exact eC _

theorem depth_ex (e : Ex) (hn : e.nodes ≤ 1099511627776) (a : Option Addr) (cap : Nat) (w : World) (h : ExsV w e.a a cap) :
    Calls Try.prog 30 #[exVal e a cap] w fun r w' => r = .returned (.int .i64 (depthE e)) ∧ Below w.heap.size w w' :=
  depth_any e.nodes e (Nat.le_refl _) hn a cap w h

set_option maxHeartbeats 2000000 in
theorem depthC_any (k : Nat) : ∀ (c : Co) (_ : c.nodes ≤ k) (_ : c.nodes ≤ 1099511627776) (xa ka : Option Addr) (xc kc : Nat) (w : World), CoV w c xa xc ka kc →
    Calls Try.prog 21 #[coVal c xa xc ka kc] w fun r w' => r = .returned (.int .i64 (depthC c)) ∧ Below w.heap.size w w' := by
  induction k with
  | zero => intro e he; have := e.nodes_pos; omega
  | succ k ih =>
    intro c he hbig xa ka xc kc w h
    have Hd := Lib.hid (depthC_eq c)
    have HnA := Lib.hid (fun x (hx : x ∈ partsA c) => Co.nodes_lt_a (partsA_sub hx))
    have HnC := Lib.hid (fun x (hx : x ∈ partsC c) => Co.nodes_lt (partsC_sub hx))
    have HS := Lib.hid h
    have IH := Lib.hid ih
    clear h ih
    have bA : ∀ j, maxN (((partsA c).take j).map depthE) ≤ c.nodes := fun j => maxN_le (by
      intro x hx
      obtain ⟨y, hy, rfl⟩ := List.mem_map.1 hx
      have := depthE_nodes y
      have := HnA.out y (List.mem_of_mem_take hy)
      omega)
    have bC : ∀ j, maxN (((partsC c).take j).map depthC) < c.nodes := fun j => by
      have : maxN (((partsC c).take j).map depthC) ≤ c.nodes - 1 := maxN_le (by
        intro x hx
        obtain ⟨y, hy, rfl⟩ := List.mem_map.1 hx
        have := depthC_nodes y
        have := HnC.out y (List.mem_of_mem_take hy)
        omega)
      have := c.nodes_pos
      omega
    have BA := Lib.hid bA
    have BC := Lib.hid bC
    clear bA bC
    unfold coVal
    go_enter Try.func21, Try.ntmps21
    go_wp2_with fail
    refine (parts_any c xa ka xc kc _ (HS.out.keep (Keeps.alloc _ _))).mono ?_
    rintro r w1 ⟨oa, oc, pa, pc, rfl, hx, hy, hb⟩
    have HX := Lib.hid hx
    have HY := Lib.hid hy
    clear hx hy
    have hb0 : Below w.heap.size w w1 := ((Below.refl _ _).alloc (Nat.le_refl _) _).trans (hb.mono (by simp))
    clear hb
    have hlen : (partsA c).length ≤ 9223372036854775807 := Nat.le_trans HX.out.cap_le.1 HX.out.cap_le.2
    have hlenC : (partsC c).length ≤ 9223372036854775807 := Nat.le_trans HY.out.cap_le.1 HY.out.cap_le.2
    go_wp2_with fail
    go_loopw [3, 17] (fun n i wr => ∃ k : Nat, k ≤ (partsA c).length ∧ i = .int .i64 k ∧ n = .int .i64 (maxN (((partsA c).take k).map depthE) : Nat) ∧ Below w1.heap.size w1 wr) (fun _ i _ => (partsA c).length - (intOf i).toNat)
    case atStart => exact ⟨0, Nat.zero_le _, rfl, rfl, Below.refl _ _⟩
    case round =>
      obtain ⟨j, hj, rfl, rfl, hw⟩ := hrel
      by_cases hlt : j < (partsA c).length
      · obtain ⟨b, off, ya, yc, rfl, hc, hk⟩ := (HX.out.keep (keepsOf hw)).elem j hlt
        have hm := maxN_take depthE (partsA c) j hlt
        have hnode := HnA.out _ (List.getElem_mem hlt)
        have hd1 := depthE_nodes (partsA c)[j]
        have hl1 := BA.out j
        have HM := Lib.hid hm
        clear hm
        have IHj := Lib.hid (depth_ex (partsA c)[j] (by omega) ya yc)
        generalize (partsA c)[j] = x at *
        generalize maxN (((partsA c).take j).map depthE) = m at *
        obtain ⟨h0, h1, h2, h3⟩ := hc
        have lb := World.block_lt_of_cell? wr _ h0
        have HK := Lib.hid hk
        clear hk
        by_cases hmx : m < depthE x
        all_goals
          go_wp2_with (go_at_call 30; refine (IHj.out _ (HK.out.keep (Keeps.alloc _ _))).mono ?_; rintro r w2 ⟨rfl, hb⟩)
          go_roundw
          case rel => exact ⟨j + 1, by omega, by go_num, by rw [HM.out]; first | (rw [Nat.max_eq_right (by omega)]) | (rw [Nat.max_eq_left (by omega)]), (hw.alloc hw.size _).trans (hb.mono (by have := hw.size; simp; omega))⟩
          case measure => simp [intOf]; omega
      · obtain rfl : j = (partsA c).length := by omega
        have ht : (partsA c).take (partsA c).length = partsA c := List.take_of_length_le (by omega)
        have hl1 := BA.out (partsA c).length
        rw [ht] at hl1 ⊢
        clear ht
        generalize maxN ((partsA c).map depthE) = m at *
        have HY2 := Lib.hid (HY.out.keep (keepsOf hw))
        clear HY HX
        go_wp2_with fail
        obtain ⟨wo, rfl⟩ : ∃ wo : World, wo = wr := ⟨_, rfl⟩
        go_loopw [3, 28] (fun n i wr => ∃ k : Nat, k ≤ (partsC c).length ∧ i = .int .i64 k ∧ n = .int .i64 (max m (maxN (((partsC c).take k).map depthC)) : Nat) ∧ Below wo.heap.size wo wr) (fun _ i _ => (partsC c).length - (intOf i).toNat)
        case atStart => exact ⟨0, Nat.zero_le _, rfl, by simp [maxN], Below.refl _ _⟩
        case round =>
          obtain ⟨q, hq, rfl, rfl, hw2⟩ := hrel
          by_cases hlt : q < (partsC c).length
          · obtain ⟨b, off, ya, yc, za, zc, rfl, hc, hk, hk2⟩ := (HY2.out.keep (keepsOf hw2)).elem q hlt
            have hm := maxN_take depthC (partsC c) q hlt
            have hnode := HnC.out _ (List.getElem_mem hlt)
            have hd1 := depthC_nodes (partsC c)[q]
            have hl2 := BC.out q
            have HM := Lib.hid hm
            clear hm
            have IHj := Lib.hid (IH.out (partsC c)[q] (by omega) (by omega) ya za yc zc)
            generalize (partsC c)[q] = x at *
            generalize maxN (((partsC c).take q).map depthC) = m2 at *
            obtain ⟨h0, h1, h2⟩ := hc
            have lb := World.block_lt_of_cell? wr _ h0
            have HK := Lib.hid hk
            have HK2 := Lib.hid hk2
            clear hk hk2
            obtain ⟨mm, hmm⟩ : ∃ mm, mm = max m m2 := ⟨_, rfl⟩
            have HMM := Lib.hid hmm
            rw [← hmm]
            have hmm1 : mm ≤ c.nodes := by omega
            clear hmm
            by_cases hmx : mm < depthC x
            all_goals
              go_wp2_with (go_at_call 21; refine (IHj.out _ ⟨HK.out.keep (Keeps.alloc _ _), HK2.out.keep (Keeps.alloc _ _)⟩).mono ?_; rintro r w2 ⟨rfl, hb⟩)
              go_roundw
              case rel => exact ⟨q + 1, by omega, by go_num, by rw [HM.out]; have := HMM.out; first | (rw [show max m (max m2 (depthC x)) = depthC x from by omega]) | (rw [show max m (max m2 (depthC x)) = mm from by omega]), (hw2.alloc hw2.size _).trans (hb.mono (by have := hw2.size; simp; omega))⟩
              case measure => simp [intOf]; omega
          · have hq' : q = (partsC c).length := by omega
            have ht : (partsC c).take q = partsC c := List.take_of_length_le (by omega)
            have hl2 := BC.out q
            rw [ht] at hl2 ⊢
            clear ht
            generalize maxN ((partsC c).map depthC) = m2 at *
            obtain ⟨mm, hmm⟩ : ∃ mm, mm = max m m2 := ⟨_, rfl⟩
            have HMM := Lib.hid hmm
            rw [← hmm]
            have hmm1 : mm ≤ c.nodes := by omega
            clear hmm
            go_wp2_with fail
            go_ret
            exact ⟨ret_int (by rw [Hd.out]; have := HMM.out; omega), hb0.trans ((hw.trans (hw2.mono hw.size)).mono hb0.size)⟩

theorem depthC_co (c : Co) (hn : c.nodes ≤ 1099511627776) (xa ka : Option Addr) (xc kc : Nat) (w : World) (h : CoV w c xa xc ka kc) :
    Calls Try.prog 21 #[coVal c xa xc ka kc] w fun r w' => r = .returned (.int .i64 (depthC c)) ∧ Below w.heap.size w w' :=
  depthC_any c.nodes c (Nat.le_refl _) hn xa ka xc kc w h

end Go.Proofs.Ytfhfdenmcneamaa
