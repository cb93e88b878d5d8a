/- parolelaw01.NumOrder, the walk: the smaller and the greater of two values. -/
import Derived.Test.YtfhfdenmcneamaaNumEx
import Derived.Test.YtfhfdenmcneamaaLaw
set_option linter.unusedVariables false
namespace Go.Proofs.Ytfhfdenmcneamaa
open Go.ChangeShapes Go.WideShapes Go.ChangeAt Go.RowKit

attribute [local go_sem] exVal coVal Ex.op Ex.n Ex.v Ex.a Co.op Co.a Co.c

theorem opV_min (a b : Int) (ha : -2147483648 ≤ a ∧ a ≤ 2147483647) (hb : -2147483648 ≤ b ∧ b ≤ 2147483647) : opV 9 a b = min a b := by
  simp [opV, wrap32_of a ha, wrap32_of b hb]
theorem opV_max (a b : Int) (ha : -2147483648 ≤ a ∧ a ≤ 2147483647) (hb : -2147483648 ≤ b ∧ b ≤ 2147483647) : opV 10 a b = max a b := by
  simp [opV, wrap32_of a ha, wrap32_of b hb]

theorem holds_is {vs ls : List Int} {c : Co} {q : Bool} (hq : holdsC vs ls c = q) (va la : Option Addr) (vc lc : Nat) (xa ka : Option Addr) (xc kc : Nat) (w : World) (hc : CoV w c xa xc ka kc) (hv : IntsV w vs va vc) (hl : IntsV w ls la lc) :
    Calls Try.prog 14 #[coVal c xa xc ka kc, .slice va vs.length vc, .slice la ls.length lc] w fun r w' => r = .returned (.bool q) ∧ Below w.heap.size w w' := by
  rw [← hq]; exact holds_co vs ls va la vc lc c xa ka xc kc w hc hv hl

/-- The two numbers as expressions. -/
def twoE (a b : Int) : List Ex := [.mk 1 0 a [], .mk 1 0 b []]

theorem twoE_le (a b : Int) (ha : -2147483648 ≤ a ∧ a ≤ 2147483647) (hb : -2147483648 ≤ b ∧ b ≤ 2147483647) : holdsC [] [] (.mk 3 (twoE a b) []) = decide (a ≤ b) := by
  simp [holdsC, twoE, getE, evalE, wrap32_of a ha, wrap32_of b hb]
theorem twoE_lt (a b : Int) (ha : -2147483648 ≤ a ∧ a ≤ 2147483647) (hb : -2147483648 ≤ b ∧ b ≤ 2147483647) : holdsC [] [] (.mk 2 (twoE a b) []) = decide (a < b) := by
  simp [holdsC, twoE, getE, evalE, wrap32_of a ha, wrap32_of b hb]
theorem twoE_eq (a b : Int) (ha : -2147483648 ≤ a ∧ a ≤ 2147483647) (hb : -2147483648 ≤ b ∧ b ≤ 2147483647) : holdsC [] [] (.mk 4 (twoE a b) []) = decide (a = b) := by
  simp [holdsC, twoE, getE, evalE, wrap32_of a ha, wrap32_of b hb]

set_option maxRecDepth 100000 in
set_option maxHeartbeats 8000000 in
theorem order_lt (a b c : Int) (ha : -2147483648 ≤ a ∧ a ≤ 2147483647) (hb : -2147483648 ≤ b ∧ b ≤ 2147483647) (hc : -2147483648 ≤ c ∧ c ≤ 2147483647) (w : World) (h : a < b) (u1 : (b != a) = true) (u2 : (a == b) = false) :
    Calls Try.prog 5 #[.int .i32 a, .int .i32 b, .int .i32 c] w fun e w' => e = .returned (.bool true) ∧ Below w.heap.size w w' := by
  have E1 := Lib.hid (show opV 9 a b = a by rw [opV_min a b ha hb]; omega)
  have E2 := Lib.hid (show opV 10 a b = b by rw [opV_max a b ha hb]; omega)
  have E5 := Lib.hid (show opV 10 a a = a by rw [opV_max a _ ha (by omega)]; omega)
  have E6 := Lib.hid (show opV 9 a b = a by rw [opV_min a _ ha (by omega)]; omega)
  have E7 := Lib.hid (show opV 9 b a = a by rw [opV_min b a hb ha]; omega)
  have e3 : opV 9 a c = opV 9 a (opV 9 b c) := by
    rw [opV_min b c hb hc, opV_min _ c (by omega) hc, opV_min a _ ha (by omega)]; omega
  generalize hm : opV 9 a c = m at e3
  generalize hx : opV 9 b c = x at e3
  have E3 := Lib.hid hm
  have E4 := Lib.hid hx
  have E8 := Lib.hid e3.symm
  have G1 := Lib.hid (show holdsC [] [] (.mk 3 (twoE a b) []) = true by rw [twoE_le a b ha hb]; simp; omega)
  have G2 := Lib.hid (show holdsC [] [] (.mk 2 (twoE a b) []) = true by rw [twoE_lt a b ha hb]; simp; omega)
  have G3 := Lib.hid (show holdsC [] [] (.mk 4 (twoE a b) []) = false by rw [twoE_eq a b ha hb]; simp; omega)
  clear hm hx e3
  go_enter Try.func5, Try.ntmps5
  go_wp2_with fail
  refine (examples_true _).mono ?_
  rintro r w1 ⟨rfl, hb1⟩
  go_wp2_with fail
  refine (op_is E1.out _).mono ?_
  rintro r w2 ⟨rfl, hb2⟩
  have hb1 := hb1.trans (hb2.mono hb1.size)
  go_wp2_with fail
  refine (op_is E2.out _).mono ?_
  rintro r w3 ⟨rfl, hb3⟩
  have hb1 := hb1.trans (hb3.mono hb1.size)
  go_wp2_with fail
  refine (op_is E3.out _).mono ?_
  rintro r w4 ⟨rfl, hb4⟩
  have hb1 := hb1.trans (hb4.mono hb1.size)
  go_wp2_with fail
  refine (op_is E4.out _).mono ?_
  rintro r w5 ⟨rfl, hb5⟩
  have hb1 := hb1.trans (hb5.mono hb1.size)
  go_wp2_with fail
  refine (op_is E8.out _).mono ?_
  rintro r w6 ⟨rfl, hb6⟩
  have hb1 := hb1.trans (hb6.mono hb1.size)
  go_wp2_with fail
  refine (op_is E5.out _).mono ?_
  rintro r w7 ⟨rfl, hb7⟩
  have hb1 := hb1.trans (hb7.mono hb1.size)
  go_wp2_with fail
  refine (op_is E6.out _).mono ?_
  rintro r w8 ⟨rfl, hb8⟩
  have hb1 := hb1.trans (hb8.mono hb1.size)
  go_wp2_with fail
  refine (op_is E7.out _).mono ?_
  rintro r w9 ⟨rfl, hb9⟩
  have hb1 := hb1.trans (hb9.mono hb1.size)
  go_wp2_with fail
  refine (mkNum a _).mono ?_
  rintro r w10 ⟨rfl, hb10⟩
  have hb1 := hb1.trans (hb10.mono hb1.size)
  go_wp2_with fail
  refine (mkNum b _).mono ?_
  rintro r w11 ⟨rfl, hb11⟩
  have hb1 := hb1.trans (hb11.mono hb1.size)
  go_wp2_with fail
  refine (holds_is (vs := []) (ls := []) G1.out none none 0 0 (some ⟨w11.heap.size, 0, none⟩) none 2 0 _ ⟨exsV_two ⟨by go_simp, by go_simp, by go_simp, by go_simp⟩ ⟨by go_simp, by go_simp, by go_simp, by go_simp⟩ (ExsV.nilv _) (ExsV.nilv _), CosV.nilv _⟩ (IntsV.nil _) (IntsV.nil _)).mono ?_
  rintro r w12 ⟨rfl, hb12⟩
  have hL : ExsV w12 (twoE a b) (some ⟨w11.heap.size, 0, none⟩) 2 := (exsV_two ⟨by go_simp, by go_simp, by go_simp, by go_simp⟩ ⟨by go_simp, by go_simp, by go_simp, by go_simp⟩ (ExsV.nilv _) (ExsV.nilv _) : ExsV (w11.alloc _) (twoE a b) (some ⟨w11.heap.size, 0, none⟩) 2).keep (keepsOf hb12)
  have hb1 := (hb1.alloc hb1.size _).trans (hb12.mono (by have := hb1.size; simp; omega))
  have HL := Lib.hid hL
  clear hL
  go_wp2_with fail
  refine (holds_is (vs := []) (ls := []) G2.out none none 0 0 _ none 2 0 _ ⟨HL.out, CosV.nilv _⟩ (IntsV.nil _) (IntsV.nil _)).mono ?_
  rintro r w13 ⟨rfl, hb13⟩
  have hb1 := hb1.trans (hb13.mono hb1.size)
  go_wp2_with fail
  refine (holds_is (vs := []) (ls := []) G3.out none none 0 0 _ none 2 0 _ ⟨HL.out.keep (keepsOf hb13), CosV.nilv _⟩ (IntsV.nil _) (IntsV.nil _)).mono ?_
  rintro r w14 ⟨rfl, hb14⟩
  have hb1 := hb1.trans (hb14.mono hb1.size)
  go_wp2_with fail
  go_ret
  exact ⟨rfl, hb1⟩

set_option maxRecDepth 100000 in
set_option maxHeartbeats 8000000 in
theorem order_eq (a c : Int) (ha : -2147483648 ≤ a ∧ a ≤ 2147483647) (hc : -2147483648 ≤ c ∧ c ≤ 2147483647) (w : World) :
    Calls Try.prog 5 #[.int .i32 a, .int .i32 a, .int .i32 c] w fun e w' => e = .returned (.bool true) ∧ Below w.heap.size w w' := by
  have E1 := Lib.hid (show opV 9 a a = a by rw [opV_min a a ha ha]; omega)
  have E2 := Lib.hid (show opV 10 a a = a by rw [opV_max a a ha ha]; omega)
  have E5 := Lib.hid (show opV 10 a a = a by rw [opV_max a _ ha (by omega)]; omega)
  have E6 := Lib.hid (show opV 9 a a = a by rw [opV_min a _ ha (by omega)]; omega)
  have E7 := Lib.hid (show opV 9 a a = a by rw [opV_min a a ha ha]; omega)
  have e3 : opV 9 a c = opV 9 a (opV 9 a c) := by
    rw [opV_min a c ha hc, opV_min a _ ha (by omega)]; omega
  generalize hm : opV 9 a c = m at e3
  have E3 := Lib.hid hm
  have E4 := Lib.hid hm
  have E8 := Lib.hid e3.symm
  have G1 := Lib.hid (show holdsC [] [] (.mk 3 (twoE a a) []) = true by rw [twoE_le a a ha ha]; simp)
  have G2 := Lib.hid (show holdsC [] [] (.mk 2 (twoE a a) []) = false by rw [twoE_lt a a ha ha]; simp)
  have G3 := Lib.hid (show holdsC [] [] (.mk 4 (twoE a a) []) = true by rw [twoE_eq a a ha ha]; simp)
  clear hm e3
  go_enter Try.func5, Try.ntmps5
  go_wp2_with fail
  refine (examples_true _).mono ?_
  rintro r w1 ⟨rfl, hb1⟩
  go_wp2_with fail
  refine (op_is E1.out _).mono ?_
  rintro r w2 ⟨rfl, hb2⟩
  have hb1 := hb1.trans (hb2.mono hb1.size)
  go_wp2_with fail
  refine (op_is E2.out _).mono ?_
  rintro r w3 ⟨rfl, hb3⟩
  have hb1 := hb1.trans (hb3.mono hb1.size)
  go_wp2_with fail
  refine (op_is E3.out _).mono ?_
  rintro r w4 ⟨rfl, hb4⟩
  have hb1 := hb1.trans (hb4.mono hb1.size)
  go_wp2_with fail
  refine (op_is E4.out _).mono ?_
  rintro r w5 ⟨rfl, hb5⟩
  have hb1 := hb1.trans (hb5.mono hb1.size)
  go_wp2_with fail
  refine (op_is E8.out _).mono ?_
  rintro r w6 ⟨rfl, hb6⟩
  have hb1 := hb1.trans (hb6.mono hb1.size)
  go_wp2_with fail
  refine (op_is E5.out _).mono ?_
  rintro r w7 ⟨rfl, hb7⟩
  have hb1 := hb1.trans (hb7.mono hb1.size)
  go_wp2_with fail
  refine (op_is E6.out _).mono ?_
  rintro r w8 ⟨rfl, hb8⟩
  have hb1 := hb1.trans (hb8.mono hb1.size)
  go_wp2_with fail
  refine (op_is E7.out _).mono ?_
  rintro r w9 ⟨rfl, hb9⟩
  have hb1 := hb1.trans (hb9.mono hb1.size)
  go_wp2_with fail
  refine (mkNum a _).mono ?_
  rintro r w10 ⟨rfl, hb10⟩
  have hb1 := hb1.trans (hb10.mono hb1.size)
  go_wp2_with fail
  refine (mkNum a _).mono ?_
  rintro r w11 ⟨rfl, hb11⟩
  have hb1 := hb1.trans (hb11.mono hb1.size)
  go_wp2_with fail
  refine (holds_is (vs := []) (ls := []) G1.out none none 0 0 (some ⟨w11.heap.size, 0, none⟩) none 2 0 _ ⟨exsV_two ⟨by go_simp, by go_simp, by go_simp, by go_simp⟩ ⟨by go_simp, by go_simp, by go_simp, by go_simp⟩ (ExsV.nilv _) (ExsV.nilv _), CosV.nilv _⟩ (IntsV.nil _) (IntsV.nil _)).mono ?_
  rintro r w12 ⟨rfl, hb12⟩
  have hL : ExsV w12 (twoE a a) (some ⟨w11.heap.size, 0, none⟩) 2 := (exsV_two ⟨by go_simp, by go_simp, by go_simp, by go_simp⟩ ⟨by go_simp, by go_simp, by go_simp, by go_simp⟩ (ExsV.nilv _) (ExsV.nilv _) : ExsV (w11.alloc _) (twoE a a) (some ⟨w11.heap.size, 0, none⟩) 2).keep (keepsOf hb12)
  have hb1 := (hb1.alloc hb1.size _).trans (hb12.mono (by have := hb1.size; simp; omega))
  have HL := Lib.hid hL
  clear hL
  go_wp2_with fail
  refine (holds_is (vs := []) (ls := []) G2.out none none 0 0 _ none 2 0 _ ⟨HL.out, CosV.nilv _⟩ (IntsV.nil _) (IntsV.nil _)).mono ?_
  rintro r w13 ⟨rfl, hb13⟩
  have hb1 := hb1.trans (hb13.mono hb1.size)
  go_wp2_with fail
  refine (holds_is (vs := []) (ls := []) G3.out none none 0 0 _ none 2 0 _ ⟨HL.out.keep (keepsOf hb13), CosV.nilv _⟩ (IntsV.nil _) (IntsV.nil _)).mono ?_
  rintro r w14 ⟨rfl, hb14⟩
  have hb1 := hb1.trans (hb14.mono hb1.size)
  go_wp2_with fail
  go_ret
  exact ⟨rfl, hb1⟩

set_option maxRecDepth 100000 in
set_option maxHeartbeats 8000000 in
theorem order_gt (a b c : Int) (ha : -2147483648 ≤ a ∧ a ≤ 2147483647) (hb : -2147483648 ≤ b ∧ b ≤ 2147483647) (hc : -2147483648 ≤ c ∧ c ≤ 2147483647) (w : World) (h : b < a) (u1 : (b != a) = true) (u2 : (a == b) = false) (u3 : (b == a) = false) (u4 : (a != b) = true) :
    Calls Try.prog 5 #[.int .i32 a, .int .i32 b, .int .i32 c] w fun e w' => e = .returned (.bool true) ∧ Below w.heap.size w w' := by
  have E1 := Lib.hid (show opV 9 a b = b by rw [opV_min a b ha hb]; omega)
  have E2 := Lib.hid (show opV 10 a b = a by rw [opV_max a b ha hb]; omega)
  have E5 := Lib.hid (show opV 10 a b = a by rw [opV_max a _ ha (by omega)]; omega)
  have E6 := Lib.hid (show opV 9 a a = a by rw [opV_min a _ ha (by omega)]; omega)
  have E7 := Lib.hid (show opV 9 b a = b by rw [opV_min b a hb ha]; omega)
  have e3 : opV 9 b c = opV 9 a (opV 9 b c) := by
    rw [opV_min b c hb hc, opV_min a _ ha (by omega)]; omega
  generalize hm : opV 9 b c = m at e3
  have E3 := Lib.hid hm
  have E4 := Lib.hid hm
  have E8 := Lib.hid e3.symm
  have G1 := Lib.hid (show holdsC [] [] (.mk 3 (twoE a b) []) = false by rw [twoE_le a b ha hb]; simp; omega)
  have G2 := Lib.hid (show holdsC [] [] (.mk 2 (twoE a b) []) = false by rw [twoE_lt a b ha hb]; simp; omega)
  have G3 := Lib.hid (show holdsC [] [] (.mk 4 (twoE a b) []) = false by rw [twoE_eq a b ha hb]; simp; omega)
  clear hm e3
  go_enter Try.func5, Try.ntmps5
  go_wp2_with fail
  refine (examples_true _).mono ?_
  rintro r w1 ⟨rfl, hb1⟩
  go_wp2_with fail
  refine (op_is E1.out _).mono ?_
  rintro r w2 ⟨rfl, hb2⟩
  have hb1 := hb1.trans (hb2.mono hb1.size)
  go_wp2_with fail
  refine (op_is E2.out _).mono ?_
  rintro r w3 ⟨rfl, hb3⟩
  have hb1 := hb1.trans (hb3.mono hb1.size)
  go_wp2_with fail
  refine (op_is E3.out _).mono ?_
  rintro r w4 ⟨rfl, hb4⟩
  have hb1 := hb1.trans (hb4.mono hb1.size)
  go_wp2_with fail
  refine (op_is E4.out _).mono ?_
  rintro r w5 ⟨rfl, hb5⟩
  have hb1 := hb1.trans (hb5.mono hb1.size)
  go_wp2_with fail
  refine (op_is E8.out _).mono ?_
  rintro r w6 ⟨rfl, hb6⟩
  have hb1 := hb1.trans (hb6.mono hb1.size)
  go_wp2_with fail
  refine (op_is E5.out _).mono ?_
  rintro r w7 ⟨rfl, hb7⟩
  have hb1 := hb1.trans (hb7.mono hb1.size)
  go_wp2_with fail
  refine (op_is E6.out _).mono ?_
  rintro r w8 ⟨rfl, hb8⟩
  have hb1 := hb1.trans (hb8.mono hb1.size)
  go_wp2_with fail
  refine (op_is E7.out _).mono ?_
  rintro r w9 ⟨rfl, hb9⟩
  have hb1 := hb1.trans (hb9.mono hb1.size)
  go_wp2_with fail
  refine (mkNum a _).mono ?_
  rintro r w10 ⟨rfl, hb10⟩
  have hb1 := hb1.trans (hb10.mono hb1.size)
  go_wp2_with fail
  refine (mkNum b _).mono ?_
  rintro r w11 ⟨rfl, hb11⟩
  have hb1 := hb1.trans (hb11.mono hb1.size)
  go_wp2_with fail
  refine (holds_is (vs := []) (ls := []) G1.out none none 0 0 (some ⟨w11.heap.size, 0, none⟩) none 2 0 _ ⟨exsV_two ⟨by go_simp, by go_simp, by go_simp, by go_simp⟩ ⟨by go_simp, by go_simp, by go_simp, by go_simp⟩ (ExsV.nilv _) (ExsV.nilv _), CosV.nilv _⟩ (IntsV.nil _) (IntsV.nil _)).mono ?_
  rintro r w12 ⟨rfl, hb12⟩
  have hL : ExsV w12 (twoE a b) (some ⟨w11.heap.size, 0, none⟩) 2 := (exsV_two ⟨by go_simp, by go_simp, by go_simp, by go_simp⟩ ⟨by go_simp, by go_simp, by go_simp, by go_simp⟩ (ExsV.nilv _) (ExsV.nilv _) : ExsV (w11.alloc _) (twoE a b) (some ⟨w11.heap.size, 0, none⟩) 2).keep (keepsOf hb12)
  have hb1 := (hb1.alloc hb1.size _).trans (hb12.mono (by have := hb1.size; simp; omega))
  have HL := Lib.hid hL
  clear hL
  go_wp2_with fail
  refine (holds_is (vs := []) (ls := []) G2.out none none 0 0 _ none 2 0 _ ⟨HL.out, CosV.nilv _⟩ (IntsV.nil _) (IntsV.nil _)).mono ?_
  rintro r w13 ⟨rfl, hb13⟩
  have hb1 := hb1.trans (hb13.mono hb1.size)
  go_wp2_with fail
  refine (holds_is (vs := []) (ls := []) G3.out none none 0 0 _ none 2 0 _ ⟨HL.out.keep (keepsOf hb13), CosV.nilv _⟩ (IntsV.nil _) (IntsV.nil _)).mono ?_
  rintro r w14 ⟨rfl, hb14⟩
  have hb1 := hb1.trans (hb14.mono hb1.size)
  go_wp2_with fail
  go_ret
  exact ⟨rfl, hb1⟩

theorem order_walk (a b c : Int) (ha : -2147483648 ≤ a ∧ a ≤ 2147483647) (hb : -2147483648 ≤ b ∧ b ≤ 2147483647) (hc : -2147483648 ≤ c ∧ c ≤ 2147483647) (w : World) :
    Calls Try.prog 5 #[.int .i32 a, .int .i32 b, .int .i32 c] w fun e w' => e = .returned (.bool true) ∧ Below w.heap.size w w' := by
  rcases Int.lt_trichotomy a b with h | h | h
  · exact order_lt a b c ha hb hc w h (by simp; omega) (by simp; omega)
  · subst h; exact order_eq a c ha hc w
  · exact order_gt a b c ha hb hc w h (by simp; omega) (by simp; omega) (by simp; omega) (by simp; omega)

end Go.Proofs.Ytfhfdenmcneamaa
