/- The fixed calls that each law of this chapter begins with: they answer true. -/
import Derived.Test.YtfhfdenmcneamaaNumMake
set_option linter.unusedVariables false
set_option linter.unusedSimpArgs false
namespace Go.Proofs.Ytfhfdenmcneamaa
open Go.ChangeShapes Go.WideShapes Go.ChangeAt Go.RowKit

attribute [local go_sem] exVal coVal Ex.op Ex.n Ex.v Ex.a Co.op Co.a Co.c

def exE : Ex := .mk 4 0 0 [.mk 1 0 1 [], .mk 4 0 0 [.mk 1 0 2 [], .mk 1 0 3 []]]

theorem op_is {op a b r : Int} (h : opV op a b = r) (w : World) :
    Calls Try.prog 11 #[.int .i64 op, .int .i64 a, .int .i64 b] w fun e w' => e = .returned (.int .i64 r) ∧ Below w.heap.size w w' := by
  rw [← h]; exact op_b op a b w

set_option maxRecDepth 100000 in
set_option maxHeartbeats 2000000 in
theorem examples_true (w : World) : Calls Try.prog 10 #[] w fun r w' => r = .returned (.bool true) ∧ Below w.heap.size w w' := by
  have hd : depthE exE = 3 := by decide +kernel
  have he : evalE [] [] exE = 6 := by decide +kernel
  have hh : holdsC [] [] (.mk 1 [] []) = true := by decide +kernel
  have hw : wrap32 4294967301 = 5 := by decide +kernel
  have hn : exE.nodes ≤ 1099511627776 := by decide +kernel
  have HD := Lib.hid hd
  have HE := Lib.hid he
  have HH := Lib.hid hh
  have HW := Lib.hid hw
  have HN := Lib.hid hn
  clear hd he hh hw hn
  go_enter Try.func10, Try.ntmps10
  go_wp2_with fail
  refine (mkNum 1 _).mono ?_
  rintro r w1 ⟨rfl, hb1⟩
  go_wp2_with fail
  refine (mkNum 2 _).mono ?_
  rintro r w2 ⟨rfl, hb2⟩
  go_wp2_with fail
  refine (mkNum 3 _).mono ?_
  rintro r w3 ⟨rfl, hb3⟩
  go_wp2_with fail
  refine (mkTwo 4 (.mk 1 0 2 []) (.mk 1 0 3 []) none none 0 0 _ (ExsV.nilv _) (ExsV.nilv _)).mono ?_
  rintro r w4 ⟨rfl, hx4, hb4⟩
  have HX4 := Lib.hid hx4
  clear hx4
  go_wp2_with fail
  refine (mkTwo 4 (.mk 1 0 1 []) (.mk 4 0 0 [.mk 1 0 2 [], .mk 1 0 3 []]) none _ 0 2 _ (ExsV.nilv _) HX4.out).mono ?_
  rintro r w5 ⟨rfl, hx5, hb5⟩
  have HX5 := Lib.hid hx5
  clear hx5
  go_wp2_with fail
  refine (op_is (op := 4) (a := 2147483647) (b := 1) (r := -2147483648) (by decide +kernel) _).mono ?_
  rintro r w6 ⟨rfl, hb6⟩
  have hc6 : ExCells w6 w5.heap.size 0 4 0 0 (.slice (some ⟨w4.heap.size + 3, 0, none⟩) 2 2) := ⟨keepsOf hb6 _ _ (by go_simp), keepsOf hb6 _ _ (by go_simp), keepsOf hb6 _ _ (by go_simp), keepsOf hb6 _ _ (by go_simp)⟩
  have HC6 := Lib.hid hc6
  have HB6 := Lib.hid (((Below.refl _ _).alloc (Nat.le_refl _) _).trans (hb6.mono (by simp)))
  clear hc6 hb6
  go_wp2_with fail
  refine (op_is (op := 7) (a := -7) (b := 2) (r := -3) (by decide +kernel) _).mono ?_
  rintro r w7 ⟨rfl, hb7⟩
  go_wp2_with fail
  refine (op_is (op := 8) (a := -7) (b := 2) (r := -1) (by decide +kernel) _).mono ?_
  rintro r w8 ⟨rfl, hb8⟩
  go_wp2_with fail
  refine (op_is (op := 7) (a := -2147483648) (b := -1) (r := -2147483648) (by decide +kernel) _).mono ?_
  rintro r w9 ⟨rfl, hb9⟩
  go_wp2_with fail
  refine (op_is (op := 8) (a := -2147483648) (b := -1) (r := 0) (by decide +kernel) _).mono ?_
  rintro r w10 ⟨rfl, hb10⟩
  have hc10 := (((HC6.out.keep (keepsOf hb7)).keep (keepsOf hb8)).keep (keepsOf hb9)).keep (keepsOf hb10)
  have HC10 := Lib.hid hc10
  obtain ⟨h0, h1, h2, h3⟩ := hc10
  go_wp2_with fail
  clear h0 h1 h2 h3
  have hx10 := ((((HX5.out.keep (keepsOf HB6.out)).keep (keepsOf hb7)).keep (keepsOf hb8)).keep (keepsOf hb9)).keep (keepsOf hb10)
  have HX10 := Lib.hid hx10
  clear hx10
  refine (depth_ex exE HN.out _ 2 _ HX10.out).mono ?_
  rw [HD.out]
  rintro r w11 ⟨rfl, hb11⟩
  have hc11 := HC10.out.keep (keepsOf hb11)
  obtain ⟨h0, h1, h2, h3⟩ := hc11
  go_wp2_with fail
  clear h0 h1 h2 h3
  refine (eval_ex [] [] none none 0 0 exE _ 2 _ (HX10.out.keep (keepsOf hb11)) (IntsV.nil _) (IntsV.nil _)).mono ?_
  rw [HE.out]
  rintro r w12 ⟨rfl, hb12⟩
  go_wp2_with fail
  refine (holds_co [] [] none none 0 0 (.mk 1 [] []) none none 0 0 _ ⟨ExsV.nilv _, CosV.nilv _⟩ (IntsV.nil _) (IntsV.nil _)).mono ?_
  rw [HH.out]
  rintro r w13 ⟨rfl, hb13⟩
  go_wp2_with fail
  refine (wrap_any _ _).mono ?_
  rw [HW.out]
  rintro r w14 ⟨rfl, rfl⟩
  go_wp2_with fail
  go_ret
  have c1 := hb1.trans (hb2.mono hb1.size)
  have c2 := c1.trans (hb3.mono c1.size)
  have c3 := c2.trans (hb4.mono c2.size)
  have c4 := c3.trans (hb5.mono c3.size)
  have c5 := c4.trans (HB6.out.mono c4.size)
  have c6 := c5.trans (hb7.mono c5.size)
  have c7 := c6.trans (hb8.mono c6.size)
  have c8 := c7.trans (hb9.mono c7.size)
  have c9 := c8.trans (hb10.mono c8.size)
  have c10 := c9.trans (hb11.mono c9.size)
  have c11 := c10.trans (hb12.mono c10.size)
  have c12 := c11.trans (hb13.mono c11.size)
  exact ⟨rfl, c12⟩

end Go.Proofs.Ytfhfdenmcneamaa
