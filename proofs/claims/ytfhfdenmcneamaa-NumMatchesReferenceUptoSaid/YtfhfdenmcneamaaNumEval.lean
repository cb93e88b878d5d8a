/- The contract of num.Eval. -/
import Derived.Test.YtfhfdenmcneamaaNumOp
import Derived.Test.YtfhfdenmcneamaaAt
import Derived.Deep.RegionHeld3
set_option linter.unusedVariables false
set_option linter.unusedSimpArgs false
namespace Go.Proofs.Ytfhfdenmcneamaa
open Go.ChangeShapes Go.WideShapes Go.ChangeAt Go.RowKit

theorem binary_any (op : Int) (w : World) :
    Calls Try.prog 43 #[.int .i64 op] w fun e w' => e = .returned (.bool (decide (4 ≤ op ∧ op ≤ 10))) ∧ w = w' := by
  by_cases h : 4 ≤ op
  · by_cases h2 : op ≤ 10
    · go_enter Try.func43, Try.ntmps43
      go_wp2
      go_ret
      exact ⟨by simp [h, h2], rfl⟩
    · go_enter Try.func43, Try.ntmps43
      go_wp2
      go_ret
      exact ⟨by simp [h2], rfl⟩
  · have hd : decide (4 ≤ op) = false := by simp [h]
    go_enter Try.func43, Try.ntmps43
    go_wp2
    go_ret
    exact ⟨by simp, rfl⟩

set_option maxHeartbeats 1000000 in
theorem eval_bin (vs ls : List Int) (va la : Option Addr) (vc lc : Nat) (e : Ex) (h4 : 4 ≤ e.op) (h10 : e.op ≤ 10)
    (ih : ∀ (i : Int) (xa : Option Addr) (xc : Nat) (w : World), ExsV w (getE e.a i).a xa xc → IntsV w vs va vc → IntsV w ls la lc →
      Calls Try.prog 16 #[exVal (getE e.a i) xa xc, .slice va vs.length vc, .slice la ls.length lc] w fun r w' => r = .returned (.int .i64 (evalE vs ls (getE e.a i))) ∧ Below w.heap.size w w')
    (sa : Option Addr) (sc : Nat) (w : World) (hs : ExsV w e.a sa sc) (hv : IntsV w vs va vc) (hl : IntsV w ls la lc) :
    Calls Try.prog 16 #[.agg #[.int .i64 e.op, .int .i64 e.n, .int .i64 e.v, .slice sa e.a.length sc], .slice va vs.length vc, .slice la ls.length lc] w fun r w' => r = .returned (.int .i64 (evalE vs ls e)) ∧ Below w.heap.size w w' := by
  have he : evalE vs ls e = opV e.op (evalE vs ls (getE e.a 0)) (evalE vs ls (getE e.a 1)) := by
    rw [evalE_eq, if_neg (by omega), if_neg (by omega), if_neg (by omega), if_neg (by omega)]
  have He := Lib.hid he
  clear he
  have n1 : (e.op == 1) = false := by simp; omega
  have n2 : (e.op == 2) = false := by simp; omega
  have n3 : (e.op == 3) = false := by simp; omega
  have hbin : decide (4 ≤ e.op ∧ e.op ≤ 10) = true := by simp; omega
  have IH := Lib.hid ih
  clear ih
  have HS := Lib.hid hs
  have HV := Lib.hid hv
  have HL := Lib.hid hl
  clear hs hv hl
  go_enter Try.func16, Try.ntmps16
  go_wp2_with (go_at_call 43; refine (binary_any _ _).mono ?_; rintro e w' ⟨rfl, rfl⟩)
  go_region_held3 (fun w' => w'.cell? ⟨w.heap.size, 0, none⟩ = some (.int .i64 e.op) ∧ w'.cell? ⟨w.heap.size, 3, none⟩ = some (.slice sa e.a.length sc) ∧ Keeps w w' ∧ Below w.heap.size w w')
    (first | (have hh := ‹World.cell? _ ⟨w.heap.size, 0, none⟩ = _ ∧ _ ∧ Keeps w _ ∧ Below _ _ _›; exact ⟨(keepsOf hb) _ _ hh.1, (keepsOf hb) _ _ hh.2.1, hh.2.2.1.trans (keepsOf hb), hh.2.2.2.trans (hb.mono hh.2.2.2.size)⟩) | exact ⟨by simp, by simp, (Keeps.alloc _ _).drew, ((Below.refl _ _).alloc (Nat.le_refl _) _).drew⟩ | go_keep)
    (first | (go_at_call 39; refine (at_ex e.a sa sc _ _ (HS.out.keep (‹World.cell? _ ⟨w.heap.size, 0, none⟩ = _ ∧ _ ∧ Keeps w _ ∧ Below _ _ _›).2.2.1)).mono ?_; rintro r w1 ⟨xa, xc, rfl, hx, hb⟩)
           | (go_at_call 16; refine (IH.out _ xa xc _ (hx.keep (fun _ _ h => h)) (HV.out.keep (‹World.cell? _ ⟨w.heap.size, 0, none⟩ = _ ∧ _ ∧ Keeps w _ ∧ Below _ _ _›).2.2.1) (HL.out.keep (‹World.cell? _ ⟨w.heap.size, 0, none⟩ = _ ∧ _ ∧ Keeps w _ ∧ Below _ _ _›).2.2.1)).mono ?_; rintro r w1 ⟨rfl, hb⟩)
           | (go_at_call 11; refine (op_b _ _ _ _).mono ?_; rintro r w1 ⟨rfl, hb⟩))
  go_wp2
  go_ret
  exact ⟨ret_int He.out.symm, (‹World.cell? _ ⟨w.heap.size, 0, none⟩ = _ ∧ _ ∧ Keeps w _ ∧ Below _ _ _›).2.2.2⟩

set_option maxHeartbeats 400000 in
theorem eval_num (v n : Int) (a b c : Option Addr) (an ac bn bc cn cc : Nat) (w : World) :
    Calls Try.prog 16 #[.agg #[.int .i64 1, .int .i64 n, .int .i64 v, .slice a an ac], .slice b bn bc, .slice c cn cc] w fun r w' => r = .returned (.int .i64 (wrap32 v)) ∧ Below w.heap.size w w' := by
  go_enter Try.func16, Try.ntmps16
  go_wp2_with (go_at_call 26; refine (wrap_any _ _).mono ?_; rintro e w' ⟨rfl, rfl⟩)
  go_ret
  exact ⟨rfl, (Below.refl _ _).alloc (Nat.le_refl _) _⟩

set_option maxHeartbeats 400000 in
theorem eval_var (vs : List Int) (v n : Int) (a b c : Option Addr) (an ac bc cn cc : Nat) (w : World) (hv : IntsV w vs b bc) :
    Calls Try.prog 16 #[.agg #[.int .i64 2, .int .i64 n, .int .i64 v, .slice a an ac], .slice b vs.length bc, .slice c cn cc] w fun r w' => r = .returned (.int .i64 (wrap32 (getI vs n))) ∧ Below w.heap.size w w' := by
  have HV := Lib.hid (hv.keep (Keeps.alloc w (.cells #[.int .i64 2, .int .i64 n, .int .i64 v, .slice a an ac] 29)))
  clear hv
  go_enter Try.func16, Try.ntmps16
  go_wp2_with (first | (go_at_call 26; refine (wrap_any _ _).mono ?_; rintro e w' ⟨rfl, rfl⟩) | (go_at_call 42; refine (at_int vs b bc n _ HV.out).mono ?_; rintro e w' ⟨rfl, rfl⟩))
  go_ret
  exact ⟨rfl, (Below.refl _ _).alloc (Nat.le_refl _) _⟩

set_option maxHeartbeats 400000 in
theorem eval_len (ls : List Int) (v n : Int) (a b c : Option Addr) (an ac bn bc cc : Nat) (w : World) (hv : IntsV w ls c cc) :
    Calls Try.prog 16 #[.agg #[.int .i64 3, .int .i64 n, .int .i64 v, .slice a an ac], .slice b bn bc, .slice c ls.length cc] w fun r w' => r = .returned (.int .i64 (wrap32 (getI ls n))) ∧ Below w.heap.size w w' := by
  have HV := Lib.hid (hv.keep (Keeps.alloc w (.cells #[.int .i64 3, .int .i64 n, .int .i64 v, .slice a an ac] 29)))
  clear hv
  go_enter Try.func16, Try.ntmps16
  go_wp2_with (first | (go_at_call 26; refine (wrap_any _ _).mono ?_; rintro e w' ⟨rfl, rfl⟩) | (go_at_call 42; refine (at_int ls c cc n _ HV.out).mono ?_; rintro e w' ⟨rfl, rfl⟩))
  go_ret
  exact ⟨rfl, (Below.refl _ _).alloc (Nat.le_refl _) _⟩

set_option maxHeartbeats 400000 in
theorem eval_bad (op v n : Int) (ho : op < 1 ∨ 10 < op) (a b c : Option Addr) (an ac bn bc cn cc : Nat) (w : World) :
    Calls Try.prog 16 #[.agg #[.int .i64 op, .int .i64 n, .int .i64 v, .slice a an ac], .slice b bn bc, .slice c cn cc] w fun r w' => r = .returned (.int .i64 0) ∧ Below w.heap.size w w' := by
  have n1 : (op == 1) = false := by simp; omega
  have n2 : (op == 2) = false := by simp; omega
  have n3 : (op == 3) = false := by simp; omega
  have hbin : decide (4 ≤ op ∧ op ≤ 10) = false := by simp; omega
  go_enter Try.func16, Try.ntmps16
  go_wp2_with (go_at_call 43; refine (binary_any _ _).mono ?_; rintro e w' ⟨rfl, rfl⟩)
  go_ret
  exact ⟨rfl, (Below.refl _ _).alloc (Nat.le_refl _) _⟩

/-- Of each place in a list: what is there is in the list, or it is the missing one. -/
theorem getE_mem (l : List Ex) (i : Int) : getE l i ∈ l ∨ getE l i = exNone := by
  unfold getE
  split
  · by_cases h : i.toNat < l.length
    · left; simp [List.getElem?_eq_getElem h]
    · right; simp [List.getElem?_eq_none (show l.length ≤ i.toNat by omega)]
  · right; rfl

theorem eval_any (vs ls : List Int) (va la : Option Addr) (vc lc : Nat) (k : Nat) : ∀ (e : Ex) (_ : e.nodes ≤ k) (sa : Option Addr) (sc : Nat) (w : World), ExsV w e.a sa sc → IntsV w vs va vc → IntsV w ls la lc →
    Calls Try.prog 16 #[exVal e sa sc, .slice va vs.length vc, .slice la ls.length lc] w fun r w' => r = .returned (.int .i64 (evalE vs ls e)) ∧ Below w.heap.size w w' := by
  induction k with
  | zero => intro e he; have := e.nodes_pos; omega
  | succ k ih =>
    intro e he sa sc w hs hv hl
    by_cases hb : e.op < 1 ∨ 10 < e.op
    · have hz : evalE vs ls e = 0 := by rw [evalE_eq, if_neg (by omega), if_neg (by omega), if_neg (by omega), if_pos (by omega)]
      rw [hz]
      exact eval_bad e.op e.v e.n hb sa va la e.a.length sc vs.length vc ls.length lc w
    · by_cases h4 : 4 ≤ e.op
      · refine eval_bin vs ls va la vc lc e h4 (by omega) ?_ sa sc w hs hv hl
        intro i xa xc w2 hx hv2 hl2
        rcases getE_mem e.a i with hm | hn
        · exact ih _ (by have := Ex.nodes_lt hm; omega) xa xc w2 hx hv2 hl2
        · rw [hn] at hx ⊢
          rw [evalE_none]
          exact eval_bad 0 0 0 (by omega) xa va la 0 xc vs.length vc ls.length lc w2
      · have : e.op = 1 ∨ e.op = 2 ∨ e.op = 3 := by omega
        rcases this with h | h | h
        · have hz : evalE vs ls e = wrap32 e.v := by rw [evalE_eq, if_pos h]
          rw [hz]
          unfold exVal
          rw [h]
          exact eval_num e.v e.n sa va la e.a.length sc vs.length vc ls.length lc w
        · have hz : evalE vs ls e = wrap32 (getI vs e.n) := by rw [evalE_eq, if_neg (by omega), if_pos h]
          rw [hz]
          unfold exVal
          rw [h]
          exact eval_var vs e.v e.n sa va la e.a.length sc vc ls.length lc w hv
        · have hz : evalE vs ls e = wrap32 (getI ls e.n) := by rw [evalE_eq, if_neg (by omega), if_neg (by omega), if_pos h]
          rw [hz]
          unfold exVal
          rw [h]
          exact eval_len ls e.v e.n sa va la e.a.length sc vs.length vc lc w hl

theorem eval_ex (vs ls : List Int) (va la : Option Addr) (vc lc : Nat) (e : Ex) (sa : Option Addr) (sc : Nat) (w : World) (hs : ExsV w e.a sa sc) (hv : IntsV w vs va vc) (hl : IntsV w ls la lc) :
    Calls Try.prog 16 #[exVal e sa sc, .slice va vs.length vc, .slice la ls.length lc] w fun r w' => r = .returned (.int .i64 (evalE vs ls e)) ∧ Below w.heap.size w w' :=
  eval_any vs ls va la vc lc e.nodes e (Nat.le_refl _) sa sc w hs hv hl

end Go.Proofs.Ytfhfdenmcneamaa
