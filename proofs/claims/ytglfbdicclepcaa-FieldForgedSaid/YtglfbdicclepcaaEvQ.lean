/- Walks piece by piece: rows that become lists, ranges over functions. For every program. -/
import Derived.Test.YtglfbdicclepcaaEvP
import Derived.Test.YtglfbdicclepcaaEvZ
set_option linter.unusedVariables false
set_option linter.unusedSimpArgs false
namespace Go.Proofs.Ytglfbdicclepcaa
open Go.RowKit
set_option maxRecDepth 100000
section
variable {B : Bs} {L : Nat} {P : Program} {Q : EvX → St → Prop} {c : Code} {x : Option EvX} {p : List Nat} {Λ : Lm} {st st' : St} {ob : List Prop}
theorem OkP.frz (keep : List Nat) (j : Nat) (hob : AllP ob) (k : OkP L P c x p Λ st' Q) (h : preZ st keep j = some (st', ob) := by kernel_rfl) (hL : Nat.ble L j = true := by kernel_rfl) : OkP L P c x p Λ st Q := fun B hB => by
  obtain ⟨o, h1, h2⟩ := Option.map_eq_some_iff.1 h
  cases h2
  obtain ⟨hob1, hob2⟩ := AllP.append hob
  obtain ⟨q1, q2⟩ := closedR_of _ _ h1 hob1
  refine okC.trim (fun ρ a w hA => ?_) (k B hB)
  obtain ⟨ds, hR, hG⟩ := hA.ds
  obtain ⟨e1, e2⟩ := renew_rs (frz_rs hR keep j (Nat.le_of_ble_eq_true hL) q1 hA.up hob2) (rows_take (keep := keep) q2)
  exact ⟨ρ, hA.ro, hA.up.sub fun id hid => take_none (e2 id hid), ds, e1, (name_ren (keep := keep) (.inl (Nat.le_of_ble_eq_true hL)) : NameK L st.mem ((st.frz keep j).renew).mem).gone hG⟩
end
end Go.Proofs.Ytglfbdicclepcaa
