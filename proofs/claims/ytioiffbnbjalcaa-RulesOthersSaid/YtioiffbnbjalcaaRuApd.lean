/- Rules applied, walked -/
import Derived.Test.YtioiffbnbjalcaaRuLst
import Derived.Test.YtioiffbnbjalcaaProg
set_option linter.unusedVariables false
set_option linter.unusedSimpArgs false
namespace Go.Proofs.Ytioiffbnbjalcaa
open Go.RowKit
set_option maxRecDepth 100000
theorem opR_good {op : Int} {a b : Ab} (ga : Good a) (gb : Good b) : Good (opR op a b) := by
  unfold opR
  split
  · exact by_good (by decide) (by decide) (by decide) (by decide) (orS_mk ga.mk' gb.mk')
  · exact op_good (by omega) (by omega) ga gb
theorem opR_is {op : Int} {a b : Ab} (h1 : 4 ≤ op) (h2 : op ≤ 10) : opR op a b = opS op a b := by unfold opR; rw [if_neg (by omega)]
set_option maxHeartbeats 1000000 in
theorem ru_applied {l : List Ru} {op : Int} {a b : Ab} (hl : ∀ r ∈ l, Lim r) (ga : Good a) (gb : Good b) (ma : a.m ≤ 1048576) (mb : b.m ≤ 1048576) (hn : l.length < 1000000) : FnF Try.prog 16 false [.list (l.map encQ), iA op, .agg [iA a.lo, iA a.hi, iA a.m, iA a.r, iA a.k, iA b.lo, iA b.hi, iA b.m, iA b.r, iA b.k]] (.agg [iA (((appL op a b l (opR op a b, ([] : List Int))).1).lo), iA (((appL op a b l (opR op a b, ([] : List Int))).1).hi), iA (((appL op a b l (opR op a b, ([] : List Int))).1).m), iA (((appL op a b l (opR op a b, ([] : List Int))).1).r), iA (((appL op a b l (opR op a b, ([] : List Int))).1).k), .list ((sortI (appL op a b l (opR op a b, ([] : List Int))).2).map encI)]) := by
  refine fn_flow Try.func16 (st := (stX (.tuple []) 28 [(0, .list (l.map encQ)), (1, iV op), (2, .agg [iV a.lo, iV a.hi, iV a.m, iV a.r, iV a.k, iV b.lo, iV b.hi, iV b.m, iV b.r, iV b.k])] [])) ?_
  exact OkP.f 400 [.d, .d, .d, .d, .d, .d, .d, .d, .d, .d, .d, .d, .d, .f true (encA (opR op a b)), .f true (.tuple [encA ((appL op a b l (opR op a b, ([] : List Int))).1), .list ((sortI (appL op a b l (opR op a b, ([] : List Int))).2).map encI)]), .d, .d, .d, .d, .d, .d, .d, .d, .d, .d] (ob := [0 ≤ (0 : Int) ∧ (0 : Int) < (2 : Nat), 0 ≤ (1 : Int) ∧ (1 : Int) < (2 : Nat), 0 ≤ (0 : Int) ∧ (0 : Int) < (2 : Nat), 0 ≤ (1 : Int) ∧ (1 : Int) < (2 : Nat), FnF Try.prog 20 true [iV op, .agg [iV a.lo, iV a.hi, iV a.m, iV a.r, iV a.k], .agg [iV b.lo, iV b.hi, iV b.m, iV b.r, iV b.k]] (encA (opR op a b)), FnF Try.prog 34 true [.list (l.map encQ), iV op, .agg [iV a.lo, iV a.hi, iV a.m, iV a.r, iV a.k], .agg [iV b.lo, iV b.hi, iV b.m, iV b.r, iV b.k], encA (opR op a b)] (.tuple [encA ((appL op a b l (opR op a b, ([] : List Int))).1), .list ((sortI (appL op a b l (opR op a b, ([] : List Int))).2).map encI)]), (((appL op a b l (opR op a b, ([] : List Int))).1).lo : Int) = ((appL op a b l (opR op a b, ([] : List Int))).1).lo, (((appL op a b l (opR op a b, ([] : List Int))).1).hi : Int) = ((appL op a b l (opR op a b, ([] : List Int))).1).hi, (((appL op a b l (opR op a b, ([] : List Int))).1).m : Int) = ((appL op a b l (opR op a b, ([] : List Int))).1).m, (((appL op a b l (opR op a b, ([] : List Int))).1).r : Int) = ((appL op a b l (opR op a b, ([] : List Int))).1).r, (((appL op a b l (opR op a b, ([] : List Int))).1).k : Int) = ((appL op a b l (opR op a b, ([] : List Int))).1).k, ((sortI (appL op a b l (opR op a b, ([] : List Int))).2).map encI : List AV) = (sortI (appL op a b l (opR op a b, ([] : List Int))).2).map encI]) ⟨(by decide), (by decide), (by decide), (by decide), mp_op (op := op) (a := a) (b := b) ga gb ma mb, ru_Apply (l := l) (op := op) (a := a) (b := b) (x0 := opR op a b) hl (opR_good ga gb) (by omega), rfl, rfl, rfl, rfl, rfl, rfl, trivial⟩

end Go.Proofs.Ytioiffbnbjalcaa
