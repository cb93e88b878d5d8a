/- Contracts of num.Wrap, num.operators and num.Op. -/
import Derived.Test.YtioiffbnbjalcaaRows
import Derived.Test.YtioiffbnbjalcaaBase
import Derived.Test.YtioiffbnbjalcaaNumDef
import Derived.Outline
import Derived.Lib.Hide
set_option linter.unusedVariables false
set_option linter.unusedSimpArgs false
namespace Go.Proofs.Ytioiffbnbjalcaa
open Go.ChangeShapes Go.WideShapes Go.ChangeAt Go.RowKit

set_option maxHeartbeats 400000 in
theorem wrap_any (a : Int) (w : World) :
    Calls Try.prog 28 #[.int .i64 a] w fun e w' => e = .returned (.int .i64 (wrap32 a)) ∧ w = w' := by
  go_enter Try.func28, Try.ntmps28
  go_wp2
  go_ret
  exact ⟨by simp [wrap64_32], rfl⟩

/-- The entries of the operators' table. -/
def opEntries : Array MapEntry := #[
  { key := .int .i64 4, val := .func (.func 46) #[] #[], born := 0 },
  { key := .int .i64 5, val := .func (.func 47) #[] #[], born := 1 },
  { key := .int .i64 6, val := .func (.func 48) #[] #[], born := 2 },
  { key := .int .i64 7, val := .func (.func 49) #[] #[], born := 3 },
  { key := .int .i64 8, val := .func (.func 50) #[] #[], born := 4 },
  { key := .int .i64 9, val := .func (.func 51) #[] #[], born := 5 },
  { key := .int .i64 10, val := .func (.func 52) #[] #[], born := 6 }]

set_option maxHeartbeats 400000 in
theorem operators_any (w : World) :
    Calls Try.prog 27 #[] w fun e w' => e = .returned (.map (some w.heap.size)) ∧ w' = w.alloc (.map opEntries 7) := by
  have hmm := @run_makeMap Try.prog
  have hins := run_insert_last (P := Try.prog) 69 3 67 Try.underlying69 Try.underlying3
  have i0 := fun (w : World) (v0 : Value) => hins w 4 v0 #[] 0 rfl
  have i1 := fun (w : World) (v0 v1 : Value) => hins w 5 v1 #[{ key := .int .i64 4, val := v0, born := 0 }] 1 rfl
  have i2 := fun (w : World) (v0 v1 v2 : Value) => hins w 6 v2 #[{ key := .int .i64 4, val := v0, born := 0 }, { key := .int .i64 5, val := v1, born := 1 }] 2 rfl
  have i3 := fun (w : World) (v0 v1 v2 v3 : Value) => hins w 7 v3 #[{ key := .int .i64 4, val := v0, born := 0 }, { key := .int .i64 5, val := v1, born := 1 }, { key := .int .i64 6, val := v2, born := 2 }] 3 rfl
  have i4 := fun (w : World) (v0 v1 v2 v3 v4 : Value) => hins w 8 v4 #[{ key := .int .i64 4, val := v0, born := 0 }, { key := .int .i64 5, val := v1, born := 1 }, { key := .int .i64 6, val := v2, born := 2 }, { key := .int .i64 7, val := v3, born := 3 }] 4 rfl
  have i5 := fun (w : World) (v0 v1 v2 v3 v4 v5 : Value) => hins w 9 v5 #[{ key := .int .i64 4, val := v0, born := 0 }, { key := .int .i64 5, val := v1, born := 1 }, { key := .int .i64 6, val := v2, born := 2 }, { key := .int .i64 7, val := v3, born := 3 }, { key := .int .i64 8, val := v4, born := 4 }] 5 rfl
  have i6 := fun (w : World) (v0 v1 v2 v3 v4 v5 v6 : Value) => hins w 10 v6 #[{ key := .int .i64 4, val := v0, born := 0 }, { key := .int .i64 5, val := v1, born := 1 }, { key := .int .i64 6, val := v2, born := 2 }, { key := .int .i64 7, val := v3, born := 3 }, { key := .int .i64 8, val := v4, born := 4 }, { key := .int .i64 9, val := v5, born := 5 }] 6 rfl
  clear hins
  go_enter Try.func27, Try.ntmps27
  go_wp2
  go_ret
  exact ⟨rfl, rfl⟩

theorem cl_1 (a b : Int) (w : World) :
    Calls Try.prog 46 #[.int .i64 a, .int .i64 b] w fun e w' => e = .returned (.int .i64 (wrap64 (a + b))) ∧ w = w' := by
  go_enter Try.func46, Try.ntmps46
  go_wp2
  go_ret
  exact ⟨rfl, rfl⟩
theorem cl_2 (a b : Int) (w : World) :
    Calls Try.prog 47 #[.int .i64 a, .int .i64 b] w fun e w' => e = .returned (.int .i64 (wrap64 (a - b))) ∧ w = w' := by
  go_enter Try.func47, Try.ntmps47
  go_wp2
  go_ret
  exact ⟨rfl, rfl⟩
theorem cl_3 (a b : Int) (w : World) :
    Calls Try.prog 48 #[.int .i64 a, .int .i64 b] w fun e w' => e = .returned (.int .i64 (wrap64 (a * b))) ∧ w = w' := by
  go_enter Try.func48, Try.ntmps48
  go_wp2
  go_ret
  exact ⟨rfl, rfl⟩
theorem cl_6 (a b : Int) (w : World) :
    Calls Try.prog 51 #[.int .i64 a, .int .i64 b] w fun e w' => e = .returned (.int .i64 (min a b)) ∧ w = w' := by
  go_enter Try.func51, Try.ntmps51
  go_wp2
  all_goals
    go_ret
    exact ⟨ret_int (by omega), rfl⟩
theorem cl_7 (a b : Int) (w : World) :
    Calls Try.prog 52 #[.int .i64 a, .int .i64 b] w fun e w' => e = .returned (.int .i64 (max a b)) ∧ w = w' := by
  go_enter Try.func52, Try.ntmps52
  go_wp2
  all_goals
    go_ret
    exact ⟨ret_int (by omega), rfl⟩
theorem cl_40 (a : Int) (w : World) :
    Calls Try.prog 49 #[.int .i64 a, .int .i64 0] w fun e w' => e = .returned (.int .i64 (0)) ∧ w = w' := by
  go_enter Try.func49, Try.ntmps49
  go_wp2
  go_ret
  exact ⟨rfl, rfl⟩
theorem cl_4 (a b : Int) (hb : (b == 0) = false) (w : World) :
    Calls Try.prog 49 #[.int .i64 a, .int .i64 b] w fun e w' => e = .returned (.int .i64 (wrap64 (a.tdiv b))) ∧ w = w' := by
  have hb' : ¬ b = 0 := by simpa using hb
  go_enter Try.func49, Try.ntmps49
  go_wp2
  go_ret
  exact ⟨rfl, rfl⟩
theorem cl_50 (a : Int) (w : World) :
    Calls Try.prog 50 #[.int .i64 a, .int .i64 0] w fun e w' => e = .returned (.int .i64 (a)) ∧ w = w' := by
  go_enter Try.func50, Try.ntmps50
  go_wp2
  go_ret
  exact ⟨rfl, rfl⟩
theorem cl_5 (a b : Int) (hb : (b == 0) = false) (w : World) :
    Calls Try.prog 50 #[.int .i64 a, .int .i64 b] w fun e w' => e = .returned (.int .i64 (a.tmod b)) ∧ w = w' := by
  have hb' : ¬ b = 0 := by simpa using hb
  go_enter Try.func50, Try.ntmps50
  go_wp2
  go_ret
  exact ⟨rfl, rfl⟩

set_option maxHeartbeats 400000 in
theorem op_4 (a b : Int) (w : World) :
    Calls Try.prog 9 #[.int .i64 4, .int .i64 a, .int .i64 b] w fun e w' => e = .returned (.int .i64 (opV 4 a b)) ∧ w' = w.alloc (.map opEntries 7) := by
  have lk := run_lookup_int (P := Try.prog) 69 3 67 Try.underlying69 Try.underlying3 (w.alloc (.map opEntries 7)) 4 opEntries 7 w.heap.size 0 _ (MapKept.heap_alloc w (.map opEntries 7)).1 rfl
  have ha := wrap32_bd a
  have hb := wrap32_bd b
  go_enter Try.func9, Try.ntmps9
  go_wp2_with (first | (go_at_call 27; refine (operators_any _).mono ?_; rintro e w' ⟨rfl, rfl⟩) | (go_at_call 28; refine (wrap_any _ _).mono ?_; rintro e w' ⟨rfl, rfl⟩) | (go_at_call 46; refine (cl_1 _ _ _).mono ?_; rintro e w' ⟨rfl, rfl⟩))
  go_ret
  exact ⟨ret_int (by simp [opV, wrap32_64]), rfl⟩

set_option maxHeartbeats 400000 in
theorem op_5 (a b : Int) (w : World) :
    Calls Try.prog 9 #[.int .i64 5, .int .i64 a, .int .i64 b] w fun e w' => e = .returned (.int .i64 (opV 5 a b)) ∧ w' = w.alloc (.map opEntries 7) := by
  have lk := run_lookup_int (P := Try.prog) 69 3 67 Try.underlying69 Try.underlying3 (w.alloc (.map opEntries 7)) 5 opEntries 7 w.heap.size 1 _ (MapKept.heap_alloc w (.map opEntries 7)).1 rfl
  have ha := wrap32_bd a
  have hb := wrap32_bd b
  go_enter Try.func9, Try.ntmps9
  go_wp2_with (first | (go_at_call 27; refine (operators_any _).mono ?_; rintro e w' ⟨rfl, rfl⟩) | (go_at_call 28; refine (wrap_any _ _).mono ?_; rintro e w' ⟨rfl, rfl⟩) | (go_at_call 47; refine (cl_2 _ _ _).mono ?_; rintro e w' ⟨rfl, rfl⟩))
  go_ret
  exact ⟨ret_int (by simp [opV, wrap32_64]), rfl⟩

set_option maxHeartbeats 400000 in
theorem op_6 (a b : Int) (w : World) :
    Calls Try.prog 9 #[.int .i64 6, .int .i64 a, .int .i64 b] w fun e w' => e = .returned (.int .i64 (opV 6 a b)) ∧ w' = w.alloc (.map opEntries 7) := by
  have lk := run_lookup_int (P := Try.prog) 69 3 67 Try.underlying69 Try.underlying3 (w.alloc (.map opEntries 7)) 6 opEntries 7 w.heap.size 2 _ (MapKept.heap_alloc w (.map opEntries 7)).1 rfl
  have ha := wrap32_bd a
  have hb := wrap32_bd b
  go_enter Try.func9, Try.ntmps9
  go_wp2_with (first | (go_at_call 27; refine (operators_any _).mono ?_; rintro e w' ⟨rfl, rfl⟩) | (go_at_call 28; refine (wrap_any _ _).mono ?_; rintro e w' ⟨rfl, rfl⟩) | (go_at_call 48; refine (cl_3 _ _ _).mono ?_; rintro e w' ⟨rfl, rfl⟩))
  go_ret
  exact ⟨ret_int (by simp [opV, wrap32_64]), rfl⟩

set_option maxHeartbeats 400000 in
theorem op_7 (a b : Int) (w : World) :
    Calls Try.prog 9 #[.int .i64 7, .int .i64 a, .int .i64 b] w fun e w' => e = .returned (.int .i64 (opV 7 a b)) ∧ w' = w.alloc (.map opEntries 7) := by
  have lk := run_lookup_int (P := Try.prog) 69 3 67 Try.underlying69 Try.underlying3 (w.alloc (.map opEntries 7)) 7 opEntries 7 w.heap.size 3 _ (MapKept.heap_alloc w (.map opEntries 7)).1 rfl
  have ha := wrap32_bd a
  have hb := wrap32_bd b
  by_cases hz : wrap32 b = 0
  · have hz' := hz
    clear hz'
    go_enter Try.func9, Try.ntmps9
    go_wp2_with (first | (go_at_call 27; refine (operators_any _).mono ?_; rintro e w' ⟨rfl, rfl⟩) | (go_at_call 28; refine (wrap_any _ _).mono ?_; rintro e w' ⟨rfl, rfl⟩) | (go_at_call 49; refine (cl_40 _ _).mono ?_; rintro e w' ⟨rfl, rfl⟩))
    go_ret
    exact ⟨ret_int (by simp [opV, hz]; exact wrap32_of 0 (by omega)), rfl⟩
  · have hn : (wrap32 b == 0) = false := by simpa using hz
    go_enter Try.func9, Try.ntmps9
    go_wp2_with (first | (go_at_call 27; refine (operators_any _).mono ?_; rintro e w' ⟨rfl, rfl⟩) | (go_at_call 28; refine (wrap_any _ _).mono ?_; rintro e w' ⟨rfl, rfl⟩) | (go_at_call 49; refine (cl_4 _ _ hn _).mono ?_; rintro e w' ⟨rfl, rfl⟩))
    go_ret
    exact ⟨ret_int (by simp [opV, hz, wrap32_64]), rfl⟩

set_option maxHeartbeats 400000 in
theorem op_8 (a b : Int) (w : World) :
    Calls Try.prog 9 #[.int .i64 8, .int .i64 a, .int .i64 b] w fun e w' => e = .returned (.int .i64 (opV 8 a b)) ∧ w' = w.alloc (.map opEntries 7) := by
  have lk := run_lookup_int (P := Try.prog) 69 3 67 Try.underlying69 Try.underlying3 (w.alloc (.map opEntries 7)) 8 opEntries 7 w.heap.size 4 _ (MapKept.heap_alloc w (.map opEntries 7)).1 rfl
  have ha := wrap32_bd a
  have hb := wrap32_bd b
  by_cases hz : wrap32 b = 0
  · have hz' := hz
    clear hz'
    go_enter Try.func9, Try.ntmps9
    go_wp2_with (first | (go_at_call 27; refine (operators_any _).mono ?_; rintro e w' ⟨rfl, rfl⟩) | (go_at_call 28; refine (wrap_any _ _).mono ?_; rintro e w' ⟨rfl, rfl⟩) | (go_at_call 50; refine (cl_50 _ _).mono ?_; rintro e w' ⟨rfl, rfl⟩))
    go_ret
    exact ⟨ret_int (by simp [opV, hz, wrap32_of _ ha]), rfl⟩
  · have hn : (wrap32 b == 0) = false := by simpa using hz
    go_enter Try.func9, Try.ntmps9
    go_wp2_with (first | (go_at_call 27; refine (operators_any _).mono ?_; rintro e w' ⟨rfl, rfl⟩) | (go_at_call 28; refine (wrap_any _ _).mono ?_; rintro e w' ⟨rfl, rfl⟩) | (go_at_call 50; refine (cl_5 _ _ hn _).mono ?_; rintro e w' ⟨rfl, rfl⟩))
    go_ret
    exact ⟨ret_int (by simp [opV, hz]), rfl⟩

set_option maxHeartbeats 400000 in
theorem op_9 (a b : Int) (w : World) :
    Calls Try.prog 9 #[.int .i64 9, .int .i64 a, .int .i64 b] w fun e w' => e = .returned (.int .i64 (opV 9 a b)) ∧ w' = w.alloc (.map opEntries 7) := by
  have lk := run_lookup_int (P := Try.prog) 69 3 67 Try.underlying69 Try.underlying3 (w.alloc (.map opEntries 7)) 9 opEntries 7 w.heap.size 5 _ (MapKept.heap_alloc w (.map opEntries 7)).1 rfl
  have ha := wrap32_bd a
  have hb := wrap32_bd b
  go_enter Try.func9, Try.ntmps9
  go_wp2_with (first | (go_at_call 27; refine (operators_any _).mono ?_; rintro e w' ⟨rfl, rfl⟩) | (go_at_call 28; refine (wrap_any _ _).mono ?_; rintro e w' ⟨rfl, rfl⟩) | (go_at_call 51; refine (cl_6 _ _ _).mono ?_; rintro e w' ⟨rfl, rfl⟩))
  go_ret
  exact ⟨ret_int (by simp [opV]; rw [wrap32_of]; omega), rfl⟩

set_option maxHeartbeats 400000 in
theorem op_10 (a b : Int) (w : World) :
    Calls Try.prog 9 #[.int .i64 10, .int .i64 a, .int .i64 b] w fun e w' => e = .returned (.int .i64 (opV 10 a b)) ∧ w' = w.alloc (.map opEntries 7) := by
  have lk := run_lookup_int (P := Try.prog) 69 3 67 Try.underlying69 Try.underlying3 (w.alloc (.map opEntries 7)) 10 opEntries 7 w.heap.size 6 _ (MapKept.heap_alloc w (.map opEntries 7)).1 rfl
  have ha := wrap32_bd a
  have hb := wrap32_bd b
  go_enter Try.func9, Try.ntmps9
  go_wp2_with (first | (go_at_call 27; refine (operators_any _).mono ?_; rintro e w' ⟨rfl, rfl⟩) | (go_at_call 28; refine (wrap_any _ _).mono ?_; rintro e w' ⟨rfl, rfl⟩) | (go_at_call 52; refine (cl_7 _ _ _).mono ?_; rintro e w' ⟨rfl, rfl⟩))
  go_ret
  exact ⟨ret_int (by simp [opV]; rw [wrap32_of]; omega), rfl⟩


theorem zero_fn (w : World) : (zeroValue 67).run Try.prog w = .ok .nilFunc w := by kernel_rfl

set_option maxHeartbeats 400000 in
theorem op_none (op a b : Int) (ho : op < 4 ∨ 10 < op) (w : World) :
    Calls Try.prog 9 #[.int .i64 op, .int .i64 a, .int .i64 b] w fun e w' => e = .returned (.int .i64 (opV op a b)) ∧ w' = w.alloc (.map opEntries 7) := by
  have hn : Instr.findNow (.int .i64) (.int .i64 op) opEntries.toList 0 = some none := by
    have e : ∀ k : Int, 4 ≤ k → k ≤ 10 → (op == k) = false := fun k _ _ => by simp; omega
    simp [opEntries, Instr.findNow, Instr.sameNow, e]
  have lk := run_lookup_int_none (P := Try.prog) 69 3 67 Try.underlying69 Try.underlying3 (w.alloc (.map opEntries 7)) op opEntries 7 w.heap.size _ (zero_fn _) (MapKept.heap_alloc w (.map opEntries 7)).1 hn
  clear hn
  have hv : opV op a b = 0 := by
    unfold opV
    iterate 7 rw [if_neg (by omega)]
  have Hv := Lib.hid hv
  clear hv
  go_enter Try.func9, Try.ntmps9
  go_wp2_with (go_at_call 27; refine (operators_any _).mono ?_; rintro e w' ⟨rfl, rfl⟩)
  go_ret
  exact ⟨ret_int (by rw [Hv.out]), rfl⟩

theorem op_any (op a b : Int) (w : World) :
    Calls Try.prog 9 #[.int .i64 op, .int .i64 a, .int .i64 b] w fun e w' => e = .returned (.int .i64 (opV op a b)) ∧ w' = w.alloc (.map opEntries 7) := by
  by_cases h : op < 4 ∨ 10 < op
  · exact op_none op a b h w
  · have : op = 4 ∨ op = 5 ∨ op = 6 ∨ op = 7 ∨ op = 8 ∨ op = 9 ∨ op = 10 := by omega
    rcases this with rfl | rfl | rfl | rfl | rfl | rfl | rfl
    · exact op_4 a b w
    · exact op_5 a b w
    · exact op_6 a b w
    · exact op_7 a b w
    · exact op_8 a b w
    · exact op_9 a b w
    · exact op_10 a b w

theorem op_b (op a b : Int) (w : World) :
    Calls Try.prog 9 #[.int .i64 op, .int .i64 a, .int .i64 b] w fun e w' => e = .returned (.int .i64 (opV op a b)) ∧ Below w.heap.size w w' :=
  (op_any op a b w).mono fun _ _ h => ⟨h.1, by rw [h.2]; exact (Below.refl _ _).alloc (Nat.le_refl _) _⟩

end Go.Proofs.Ytioiffbnbjalcaa
