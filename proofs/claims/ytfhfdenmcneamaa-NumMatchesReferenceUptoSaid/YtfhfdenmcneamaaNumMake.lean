/- The contracts of the functions that make expressions and conditions, and of the fixed calls that each law begins with. -/
import Derived.Test.YtfhfdenmcneamaaNumDepthC
import Derived.Test.YtfhfdenmcneamaaNumHolds
set_option linter.unusedVariables false
set_option linter.unusedSimpArgs false
namespace Go.Proofs.Ytfhfdenmcneamaa
open Go.ChangeShapes Go.WideShapes Go.ChangeAt Go.RowKit

theorem mkNum (v : Int) (w : World) :
    Calls Try.prog 13 #[.int .i64 v] w fun r w' => r = .returned (exVal (.mk 1 0 v []) none 0) ∧ Below w.heap.size w w' := by
  go_enter Try.func13, Try.ntmps13
  go_wp2
  exact bodyPost_ret (v := .agg #[.int .i64 1, .int .i64 0, .int .i64 v, .slice none 0 0]) (by simp [results, Try.results13, go_sem]) rfl ⟨rfl, (Below.refl _ _).alloc (Nat.le_refl _) _⟩

set_option maxHeartbeats 400000 in
theorem mkTwo_raw (op o1 n1 v1 o2 n2 v2 : Int) (a1 a2 : Option Addr) (l1 c1 l2 c2 : Nat) (w : World) :
    Calls Try.prog 36 #[.int .i64 op, .agg #[.int .i64 o1, .int .i64 n1, .int .i64 v1, .slice a1 l1 c1], .agg #[.int .i64 o2, .int .i64 n2, .int .i64 v2, .slice a2 l2 c2]] w fun r w' =>
      r = .returned (.agg #[.int .i64 op, .int .i64 0, .int .i64 0, .slice (some ⟨w.heap.size + 3, 0, none⟩) 2 2]) ∧ ExCells w' (w.heap.size + 3) 0 o1 n1 v1 (.slice a1 l1 c1) ∧ ExCells w' (w.heap.size + 3) 4 o2 n2 v2 (.slice a2 l2 c2) ∧ Below w.heap.size w w' := by
  go_enter Try.func36, Try.ntmps36
  go_wp2
  exact bodyPost_ret (v := .agg #[.int .i64 op, .int .i64 0, .int .i64 0, .slice (some ⟨w.heap.size + 3, 0, none⟩) 2 2]) (by simp [results, Try.results36, go_sem]) rfl ⟨rfl, ⟨by go_simp, by go_simp, by go_simp, by go_simp⟩, ⟨by go_simp, by go_simp, by go_simp, by go_simp⟩, (((((Below.refl _ _).alloc (Nat.le_refl _) _).alloc (by simp) _).alloc (by simp; omega) _).alloc (by simp; omega) _)⟩

theorem mkTwo (op : Int) (x y : Ex) (a1 a2 : Option Addr) (c1 c2 : Nat) (w : World) (hx : ExsV w x.a a1 c1) (hy : ExsV w y.a a2 c2) :
    Calls Try.prog 36 #[.int .i64 op, exVal x a1 c1, exVal y a2 c2] w fun r w' =>
      r = .returned (exVal (.mk op 0 0 [x, y]) (some ⟨w.heap.size + 3, 0, none⟩) 2) ∧ ExsV w' [x, y] (some ⟨w.heap.size + 3, 0, none⟩) 2 ∧ Below w.heap.size w w' :=
  (mkTwo_raw op x.op x.n x.v y.op y.n y.v a1 a2 _ c1 _ c2 w).mono fun _ _ ⟨h1, h2, h3, h4⟩ => ⟨h1, exsV_two h2 h3 (hx.keep (keepsOf h4)) (hy.keep (keepsOf h4)), h4⟩

set_option maxHeartbeats 400000 in
theorem mkNot_raw (op : Int) (a1 k1 : Option Addr) (l1 c1 m1 d1 : Nat) (w : World) :
    Calls Try.prog 19 #[.agg #[.int .i64 op, .slice a1 l1 c1, .slice k1 m1 d1]] w fun r w' =>
      r = .returned (.agg #[.int .i64 5, .slice none 0 0, .slice (some ⟨w.heap.size + 2, 0, none⟩) 1 1]) ∧ CoCells w' (w.heap.size + 2) 0 op (.slice a1 l1 c1) (.slice k1 m1 d1) ∧ Below w.heap.size w w' := by
  go_enter Try.func19, Try.ntmps19
  go_wp2
  exact bodyPost_ret (v := .agg #[.int .i64 5, .slice none 0 0, .slice (some ⟨w.heap.size + 2, 0, none⟩) 1 1]) (by simp [results, Try.results19, go_sem]) rfl ⟨rfl, ⟨by go_simp, by go_simp, by go_simp⟩, ((((Below.refl _ _).alloc (Nat.le_refl _) _).alloc (by simp) _).alloc (by simp; omega) _)⟩

theorem mkNot (x : Co) (xa ka : Option Addr) (xc kc : Nat) (w : World) (h : CoV w x xa xc ka kc) :
    Calls Try.prog 19 #[coVal x xa xc ka kc] w fun r w' =>
      r = .returned (coVal (.mk 5 [] [x]) none 0 (some ⟨w.heap.size + 2, 0, none⟩) 1) ∧ CoV w' (.mk 5 [] [x]) none 0 (some ⟨w.heap.size + 2, 0, none⟩) 1 ∧ Below w.heap.size w w' :=
  (mkNot_raw x.op xa ka _ xc _ kc w).mono fun _ w' ⟨h1, h2, h4⟩ => ⟨h1, ⟨ExsV.nilv w', cosV_one h2 (h.keep (keepsOf h4))⟩, h4⟩

set_option maxHeartbeats 400000 in
theorem mkBoth_raw (q op : Int) (a1 k1 : Option Addr) (l1 c1 m1 d1 : Nat) (op2 : Int) (a2 k2 : Option Addr) (l2 c2 m2 d2 : Nat) (w : World) :
    Calls Try.prog 20 #[.int .i64 q, .agg #[.int .i64 op, .slice a1 l1 c1, .slice k1 m1 d1], .agg #[.int .i64 op2, .slice a2 l2 c2, .slice k2 m2 d2]] w fun r w' =>
      r = .returned (.agg #[.int .i64 q, .slice none 0 0, .slice (some ⟨w.heap.size + 3, 0, none⟩) 2 2]) ∧ CoCells w' (w.heap.size + 3) 0 op (.slice a1 l1 c1) (.slice k1 m1 d1) ∧ CoCells w' (w.heap.size + 3) 3 op2 (.slice a2 l2 c2) (.slice k2 m2 d2) ∧ Below w.heap.size w w' := by
  go_enter Try.func20, Try.ntmps20
  go_wp2
  exact bodyPost_ret (v := .agg #[.int .i64 q, .slice none 0 0, .slice (some ⟨w.heap.size + 3, 0, none⟩) 2 2]) (by simp [results, Try.results20, go_sem]) rfl ⟨rfl, ⟨by go_simp, by go_simp, by go_simp⟩, ⟨by go_simp, by go_simp, by go_simp⟩, (((((Below.refl _ _).alloc (Nat.le_refl _) _).alloc (by simp) _).alloc (by simp; omega) _).alloc (by simp; omega) _)⟩

theorem mkBoth (q : Int) (x y : Co) (xa ka ya la : Option Addr) (xc kc yc lc : Nat) (w : World) (h : CoV w x xa xc ka kc) (k : CoV w y ya yc la lc) :
    Calls Try.prog 20 #[.int .i64 q, coVal x xa xc ka kc, coVal y ya yc la lc] w fun r w' =>
      r = .returned (coVal (.mk q [] [x, y]) none 0 (some ⟨w.heap.size + 3, 0, none⟩) 2) ∧ CoV w' (.mk q [] [x, y]) none 0 (some ⟨w.heap.size + 3, 0, none⟩) 2 ∧ Below w.heap.size w w' :=
  (mkBoth_raw q x.op xa ka _ xc _ kc y.op ya la _ yc _ lc w).mono fun _ w' ⟨h1, h2, h3, h4⟩ => ⟨h1, ⟨ExsV.nilv w', cosV_two h2 h3 (h.keep (keepsOf h4)) (k.keep (keepsOf h4))⟩, h4⟩

end Go.Proofs.Ytfhfdenmcneamaa
