/- The library collects and sorts; num.Reads -/
import Derived.Test.YtfhfdenmcneamaaNumRd
import Derived.Test.YtfhfdenmcneamaaNumSort
import Derived.Test.YtfhfdenmcneamaaNumSrt
import Derived.Test.YtfhfdenmcneamaaEvZ
import Derived.Test.YtfhfdenmcneamaaProg
set_option linter.unusedVariables false
set_option linter.unusedSimpArgs false
namespace Go.Proofs.Ytfhfdenmcneamaa
open Go.RowKit
set_option maxRecDepth 100000
theorem FnF.resnil {P : Program} {f : FuncId} {fr : Bool} {args : List AV} {l : List AV} (hl : l = []) (h : FnF P f fr args .nilslice) : FnF P f fr args (.list l) := by
  subst hl
  exact ⟨h.1, fun B w vs hs hr => (h.2 B w vs hs hr).mono fun e w' ⟨v, h1, h2, h3⟩ => ⟨v, h1, h2, by cases h3; exact .lnil none 0 (fun _ => rfl)⟩⟩
theorem round_nj {I : Nat → List Blk → Prop} {Ix : EvX → List Blk → Prop} {j k : Nat} {s : St} (j' : Nat) (hj : Nat.ble j j' = true) (s' : St) {ob : List Prop} (h : preG s [] j' = some (s', ob)) (hob : AllP ob) (hI : I (k + 1) s'.mem) : roundQ I Ix j k .normal s := by
  refine ⟨_, hI, ?_⟩
  obtain ⟨o, h1, h2⟩ := Option.map_eq_some_iff.1 h
  cases h2
  obtain ⟨q1, q2⟩ := closedR_of _ _ h1 hob
  exact ⟨fun dd A ρ a w hR => (renew_rs (forget_rs hR [] j' q1) (rows_take q2)).1.fits, name_renew (Nat.le_of_ble_eq_true hj)⟩
theorem val_get {l : List Int} {n : Nat} (h : n < l.length) : (l.map fun a => [encI a])[n]? = some [encI (l.getD n 0)] := by
  rw [List.getElem?_map, List.getD_eq_getElem?_getD, List.getElem?_eq_getElem h]; rfl
theorem app_at {l : List Int} {k n : Nat} {a : Int} (h : l[k]? = some a) (hn : n = k) : ((l.take k).map encI).take n ++ [encI a] = (l.take (k + 1)).map encI := by
  subst hn
  rw [List.take_of_length_le (by simp; omega), List.take_add_one, h]; simp
theorem app_one {l : List Int} {a : Int} (h : l[0]? = some a) : [encI a] = (l.take 1).map encI := by
  cases l with
  | nil => simp at h
  | cons x t => simp at h; subst h; simp
theorem get_lt {l : List Int} {k : Nat} {a : Int} (h : l[k]? = some a) : k < l.length := (List.getElem?_eq_some_iff.1 h).1
theorem colw {g : Ex} (he : OkE g) (hb : g.nodes ≤ 1099511627776) : FnF Try.prog 48 true [.nilslice, encE g] (.list ((rdX g).map encI)) := by
  by_cases hz : rdX g = []
  · exact .resnil (by rw [hz]; rfl) ((rok he).2.1 hz hb)
  · exact colv he hz hb
theorem cclw {c : Co} (hc : OkC c) (hb : c.nodes ≤ 1099511627776) : FnF Try.prog 49 true [.nilslice, encC c] (.list ((rdC c).map encI)) := by
  by_cases hz : rdC c = []
  · exact .resnil (by rw [hz]; rfl) ((ccok hc).2.1 hz hb)
  · exact cclv hc hz hb

theorem val_iter {l : List Int} (hl : l.length ≤ 1099511627776) : Iter Try.prog 66 [.ptrIn (.agg [.list (l.map encI)]) 0] (l.map fun a => [encI a]) := by
  refine iter_of Try.func66 (by kernel_rfl) (by kernel_rfl) rfl (by kernel_rfl) (st := fun l_ => (stX (.tuple []) 16 [(0, .func (.yield l_) [] []), (1, .ptrIn (.agg [.list (l.map encI)]) 0)] [])) rfl ?_
  intro Y hG hxs_
  refine OkY.seqP [] (by kernel_rfl) ?_
  refine OkY.evf hG (by kernel_rfl) 400 [.d, .v (iV (l.length : Int)), .d] [0, 5, 6, 7] 0 (st' := (stX .any 16 [(0, .func (.yield Y.l) [] []), (5, .list (l.map encI)), (6, iV (l.length : Int)), (7, iV 0)] [])) (e := .normal) (ob := [(iV (((l.map encI).length : Nat) : Int) : AV) = (iV (l.length : Int) : AV)]) (by kernel_rfl) ⟨len_map, trivial⟩ ?_
  refine seq_nY ?_
  refine OkY.blockP [true] 0 (by kernel_rfl) ?_
  refine OkY.loopB [true, false] (by kernel_rfl) (fun m_ s_ => ∃ (n : Nat), (n ≤ l.length) ∧ m_ = l.length - n ∧ s_ = ((stX .any 16 [(0, .func (.yield Y.l) [] []), (5, .list (l.map encI)), (6, iV (l.length : Int)), (7, iV ((n : Nat) : Int))] []), n, false)) (l.length - 0) (⟨0, (by omega), rfl, rfl⟩) ?_
  rintro m_ s_ ⟨n, hn, rfl, rfl⟩
  refine OkY.seqP [true, false, false] (by kernel_rfl) ?_
  by_cases q1 : ((n : Nat) : Int) < (l.length : Int)
  · refine OkY.evf hG (by kernel_rfl) 400 [.v (.bool true)] [0, 5, 6, 7, 8] 0 (st' := (stX .any 16 [(0, .func (.yield Y.l) [] []), (5, .list (l.map encI)), (6, iV (l.length : Int)), (7, iV ((n : Nat) : Int)), (8, .bool true)] [])) (e := .normal) (ob := [_]) (by kernel_rfl) ⟨(bT q1), trivial⟩ ?_
    refine seq_nY ?_
    refine OkY.seqP [true, false, false, true] (by kernel_rfl) ?_
    refine OkY.evf hG (by kernel_rfl) 400 [.d] [0, 4, 5, 6, 7] 0 (st' := (stX .any 16 [(0, .func (.yield Y.l) [] []), (5, .list (l.map encI)), (6, iV (l.length : Int)), (7, iV ((n : Nat) : Int))] [])) (e := .normal) (ob := []) (by kernel_rfl) trivial ?_
    refine seq_nY ?_
    refine OkY.seqP [true, false, false, true, true] (by kernel_rfl) ?_
    refine OkY.blockP [true, false, false, true, true, false] 1 (by kernel_rfl) ?_
    refine OkY.seqP [true, false, false, true, true, false, false] (by kernel_rfl) ?_
    refine OkY.evf hG (by kernel_rfl) 400 [.e (encI (l.getD n 0)), .d, .d] [0, 4, 5, 6, 7, 14] 0 (st' := (stX .any 16 [(0, .func (.yield Y.l) [] []), (4, iV (l.getD n 0)), (5, .list (l.map encI)), (6, iV (l.length : Int)), (7, iV ((n : Nat) : Int))] [])) (e := .normal) (ob := [0 ≤ ((n : Nat) : Int), (l.map encI)[((n : Nat) : Int).toNat]? = some (encI (l.getD n 0))]) (by kernel_rfl) ⟨(by omega), elemN (by omega) (by omega), trivial⟩ ?_
    refine seq_nY ?_
    refine OkY.seqP [true, false, false, true, true, false, false, true] (by kernel_rfl) ?_
    refine OkY.yieldP hG [true, false, false, true, true, false, false, true, false] (by kernel_rfl) (k := n) rfl 2 [.d, .d] (s1 := (stX .any 16 [(0, .func (.yield Y.l) [] []), (4, iV (l.getD n 0)), (5, .list (l.map encI)), (6, iV (l.length : Int)), (7, iV ((n : Nat) : Int)), (11, .func (.yield Y.l) [] []), (12, iV (l.getD n 0))] [])) (ob1 := []) (by kernel_rfl) trivial (dst := some 13) (x := [iV (l.getD n 0)]) (by kernel_rfl) (hxs_ ▸ val_get (by omega)) rfl (by kernel_rfl) [.d] (t2 := (stX .any 16 [(0, .func (.yield Y.l) [] []), (4, iV (l.getD n 0)), (5, .list (l.map encI)), (6, iV (l.length : Int)), (7, iV ((n : Nat) : Int)), (11, .func (.yield Y.l) [] []), (12, iV (l.getD n 0)), (13, .bool true), (14, .bool false)] [])) (obt := []) (by kernel_rfl) trivial [.d] (f2 := (stX .any 16 [(0, .func (.yield Y.l) [] []), (4, iV (l.getD n 0)), (5, .list (l.map encI)), (6, iV (l.length : Int)), (7, iV ((n : Nat) : Int)), (11, .func (.yield Y.l) [] []), (12, iV (l.getD n 0)), (13, .bool false), (14, .bool true)] [])) (obf := []) (by kernel_rfl) trivial ?_ ?_
    · refine seq_nY ?_
      refine OkY.evf hG (by kernel_rfl) 400 [.d] [0, 5, 6, 7] 0 (st' := (stX .any 16 [(0, .func (.yield Y.l) [] []), (5, .list (l.map encI)), (6, iV (l.length : Int)), (7, iV ((n : Nat) : Int))] [])) (e := .normal) (ob := []) (by kernel_rfl) trivial ?_
      refine blk_nY ?_
      refine seq_nY ?_
      refine OkY.evf hG (by kernel_rfl) 400 [.v (iV (((n : Nat) : Int) + 1)), .d] [0, 5, 6, 7] 0 (st' := (stX .any 16 [(0, .func (.yield Y.l) [] []), (5, .list (l.map encI)), (6, iV (l.length : Int)), (7, iV (((n : Nat) : Int) + 1))] [])) (e := .normal) (ob := [(iV (IntKind.wrap .i64 (((n : Nat) : Int) + 1)) : AV) = (iV (((n : Nat) : Int) + 1) : AV)]) (by kernel_rfl) ⟨iW (w64 (by omega) (by omega)), trivial⟩ ?_
      exact loop_gY [0, 5, 6, 7] 0 (l.length - (n + 1)) (by omega) rfl (st2 := (stX .any 16 [(0, .func (.yield Y.l) [] []), (5, .list (l.map encI)), (6, iV (l.length : Int)), (7, iV (((n : Nat) : Int) + 1))] [])) (ob := []) (by kernel_rfl) trivial (⟨(n + 1), (by omega), rfl, rfl⟩)
    · refine seq_nY ?_
      refine OkY.evf hG (by kernel_rfl) 400 [.d] [] 0 (st' := (stX .any 16 [] [])) (e := .ret) (ob := []) (by kernel_rfl) trivial ?_
      refine blk_rY ?_
      refine seq_rY ?_
      refine loopg_rY ?_
      refine blk_rY ?_
      exact ⟨.inr rfl, .inl rfl⟩
  · refine OkY.evf hG (by kernel_rfl) 400 [.v (.bool false)] [0, 5, 6, 7, 8] 0 (st' := (stX .any 16 [(0, .func (.yield Y.l) [] []), (5, .list (l.map encI)), (6, iV (l.length : Int)), (7, iV ((n : Nat) : Int)), (8, .bool false)] [])) (e := .normal) (ob := [_]) (by kernel_rfl) ⟨(bF q1), trivial⟩ ?_
    refine seq_nY ?_
    refine OkY.seqP [true, false, false, true] (by kernel_rfl) ?_
    refine OkY.evf hG (by kernel_rfl) 400 [.d] [] 0 (st' := (stX .any 16 [] [])) (e := (.exit 0)) (ob := []) (by kernel_rfl) trivial ?_
    refine seq_eY ?_
    refine loopg_eY ?_
    refine blkQ_hereY ?_
    exact ⟨.inl rfl, .inr (by rw [List.length_map, show n = l.length by omega])⟩

theorem it_app {l : List Int} (hl : l.length ≤ 1099511627776) (hn : 0 < l.length) : FnM Try.prog 68 [] [.nilslice, .func (.func 66) [] [.ptrIn (.agg [.list (l.map encI)]) 0]] (.slice 0 0 l.length 0) [.row 1 (l.map encI) 0] := by
  refine fn_walk Try.func68 (by kernel_rfl) (by kernel_rfl) (by kernel_rfl) (st := (stX (.tuple []) 13 [(0, .nilslice), (1, .func (.func 66) [] [.ptrIn (.agg [.list (l.map encI)]) 0])] [])) rfl ?_
  refine Ok.sq [] ?_
  refine Ok.ev2 400 [.d, .d] [1, 2, 4, 5, 6] 1 (st' := (stX .any 13 [(1, .func (.func 66) [] [.ptrIn (.agg [.list (l.map encI)]) 0]), (2, .ptr 0 0), (4, .nilslice), (5, .tuple []), (6, .tuple [])] [.cells [.nilslice]])) (e := .normal) (ob := []) trivial ?_
  refine seq_n ?_
  refine Ok.sq [true] ?_
  refine Ok.sq [true, false] ?_
  refine Ok.ev2 400 [.d] [2, 4, 5, 6] 1 (st' := (stX .any 13 [(2, .ptr 0 0), (4, .nilslice), (5, .tuple []), (6, .func (.func 66) [] [.ptrIn (.agg [.list (l.map encI)]) 0])] [.cells [.nilslice]])) (e := .normal) (ob := []) trivial ?_
  refine seq_n ?_
  refine Ok.bk [true, false, true] 0 ?_
  refine Ok.rangeP (j := 1) (g := .tmp 6) (ps := #[7]) [true, false, true, false] (by kernel_rfl) [2, 4, 5] rfl (bl := false) (args := [.ptrIn (.agg [.list (l.map encI)]) 0]) (ob := []) (by kernel_rfl) trivial (xs := l.map fun a => [encI a]) (val_iter (l := l) (by omega)) (len_all (fun _ => rfl)) (by kernel_rfl) (ob2 := []) (by kernel_rfl) trivial (by kernel_rfl) (fun k_ M_ => ((k_ = 0) ∧ M_ = [.cells [.nilslice]]) ∨ (∃ (b : Int), (0 < k_ ∧ k_ ≤ l.length) ∧ M_ = [.cells [.slice 2 0 k_ 0], .row 1 [iV b] 0, .row 1 ((l.take k_).map encI) 0])) (fun _ _ => False) (.inl (⟨rfl, rfl⟩)) ?_ ?_ ?_
  · intro k_ x_ M_ hx_ hI_
    obtain ⟨a, hr_, rfl⟩ := range_elem hx_
    rcases hI_ with ⟨h0, rfl⟩ | ⟨b, h1, rfl⟩
    · have hk : k_ < l.length := get_lt hr_
      refine st_is (st' := (stX .any 13 [(2, .ptr 0 0), (4, .nilslice), (5, .tuple []), (7, iV a)] [.cells [.nilslice]])) (by kernel_rfl) ?_
      refine Ok.ev2 400 [.d] [2, 4, 5] 1 (st' := (stX .any 13 [(2, .ptr 0 0), (4, .nilslice), (5, iV a)] [.cells [.nilslice]])) (e := .normal) (ob := []) trivial ?_
      refine ⟨rfl, ?_⟩
      refine Ok.ev2 400 [.d, .d, .d, .d, .d] [] 3 (st' := (stX .any 13 [] [.cells [.slice 2 0 1 0], .row 1 [iV a] 0, .row 1 [iV a] 0])) (e := .normal) (ob := [∀ e ∈ ([iV a] : List AV), belowV 3 e = true, ∀ e ∈ ([iV a] : List AV), belowV 3 e = true, (2 * ([iV a] : List AV).length + 1024) * 8 ≤ 2 ^ 48, ∀ y ∈ ([iV a] : List AV), (cellsOf y).length = 1 ∧ ∀ c ∈ cellsOf y, isCell c = true]) ⟨(by simp [belowV, idsOf, idsL]), (by simp [belowV, idsOf, idsL]), (by simp), one_c _, trivial⟩ ?_
      exact round_nj 3 (by kernel_rfl) (stX .any 13 [] [.cells [.slice 2 0 1 0], .row 1 [iV a] 0, .row 1 [iV a] 0]) (ob := [∀ e ∈ ([iV a] : List AV), idsOf e = [], ∀ e ∈ ([iV a] : List AV), idsOf e = []]) (by kernel_rfl) ⟨(by simp [idsOf, idsL]), (by simp [idsOf, idsL]), trivial⟩ (.inr (⟨a, (by omega), by subst h0; rw [app_one hr_]⟩))
    · have hk : k_ < l.length := get_lt hr_
      refine st_is (st' := (stX .any 13 [(2, .ptr 0 0), (4, .nilslice), (5, .tuple []), (7, iV a)] [.cells [.slice 2 0 k_ 0], .row 1 [iV b] 0, .row 1 ((l.take k_).map encI) 0])) (by kernel_rfl) ?_
      refine Ok.ev2 400 [.d] [2, 4, 5] 3 (st' := (stX .any 13 [(2, .ptr 0 0), (4, .nilslice), (5, iV a)] [.cells [.slice 2 0 k_ 0], .row 1 [iV b] 0, .row 1 ((l.take k_).map encI) 0])) (e := .normal) (ob := [∀ e ∈ ([iV b] : List AV), belowV 3 e = true, ∀ e ∈ ((l.take k_).map encI : List AV), belowV 3 e = true]) ⟨(by simp [belowV, idsOf, idsL]), below_ids (ids_map (fun _ => rfl) _), trivial⟩ ?_
      refine ⟨rfl, ?_⟩
      refine Ok.ev2 400 [.d, .d, .d, .r ((l.take (k_ + 1)).map encI), .d] [] 3 (st' := (stX .any 13 [] [.cells [.slice 2 0 (k_ + 1) 1], .row 1 [iV b] 0, .row 1 ((l.take (k_ + 1)).map encI) 1])) (e := .normal) (ob := [∀ e ∈ ([iV b] : List AV), belowV 3 e = true, ∀ e ∈ ((l.take (k_ + 1)).map encI : List AV), belowV 3 e = true, (((l.take k_).map encI).take k_ ++ [iV a] : List AV) = (l.take (k_ + 1)).map encI, (2 * (k_ + ([iV a] : List AV).length) + 1024) * 8 ≤ 2 ^ 48, ∀ y ∈ ([iV a] : List AV), (cellsOf y).length = 1 ∧ ∀ c ∈ cellsOf y, isCell c = true]) ⟨(by simp [belowV, idsOf, idsL]), below_ids (ids_map (fun _ => rfl) _), app_at hr_ (by rfl), (by simp only [List.length_cons, List.length_nil]; omega), one_c _, trivial⟩ ?_
      exact round_nj 3 (by kernel_rfl) (stX .any 13 [] [.cells [.slice 2 0 (k_ + 1) 0], .row 1 [iV b] 0, .row 1 ((l.take (k_ + 1)).map encI) 0]) (ob := [∀ e ∈ ([iV b] : List AV), idsOf e = [], ∀ e ∈ ((l.take (k_ + 1)).map encI : List AV), idsOf e = []]) (by kernel_rfl) ⟨(by simp [idsOf, idsL]), ids_map (fun _ => rfl) _, trivial⟩ (.inr (⟨b, (by omega), rfl⟩))
  · intro M_ hI_
    rcases hI_ with ⟨h0, rfl⟩ | ⟨b, h1, rfl⟩
    · have hd : (l.map fun a => [encI a]).length = l.length := List.length_map _
      refine st_to (s' := (stX .any 13 [(2, .ptr 0 0), (4, .nilslice), (5, .tuple [])] [.cells [.nilslice]])) (by kernel_rfl) ?_
      refine blk_n ?_
      refine seq_n ?_
      refine Ok.ev2 400 [.d, .d] [4] 1 (st' := (stX .any 13 [(4, .nilslice)] [.cells [.nilslice]])) (e := .ret) (ob := []) trivial ?_
      exfalso; omega
    · have hd : (l.map fun a => [encI a]).length = l.length := List.length_map _
      refine st_to (s' := (stX .any 13 [(2, .ptr 0 0), (4, .nilslice), (5, .tuple [])] [.cells [.slice 2 0 ((l.map fun a => [encI a]).length) 0], .row 1 [iV b] 0, .row 1 ((l.take (l.map fun a => [encI a]).length).map encI) 0])) (by kernel_rfl) ?_
      refine blk_n ?_
      refine seq_n ?_
      refine Ok.ev2 400 [.d, .d] [4] 3 (st' := (stX .any 13 [(4, .slice 2 0 ((l.map fun a => [encI a]).length) 0)] [.cells [.slice 2 0 ((l.map fun a => [encI a]).length) 0], .row 1 [iV b] 0, .row 1 ((l.take (l.map fun a => [encI a]).length).map encI) 0])) (e := .ret) (ob := [∀ e ∈ ([iV b] : List AV), belowV 3 e = true, ∀ e ∈ ((l.take (l.map fun a => [encI a]).length).map encI : List AV), belowV 3 e = true]) ⟨(by simp [belowV, idsOf, idsL]), below_ids (ids_map (fun _ => rfl) _), trivial⟩ ?_
      refine ⟨.inr rfl, fin_to (r0 := .slice 0 0 ((l.map fun a => [encI a]).length) 0) (R0 := [.row 1 ((l.take (l.map fun a => [encI a]).length).map encI) 0]) (ob := [∀ e ∈ ((l.take (l.map fun a => [encI a]).length).map encI : List AV), idsOf e = []]) [2] ⟨ids_map (fun _ => rfl) _, trivial⟩ ?_ ?_⟩ <;> (first | (rw [hd]; done) | (rw [hd, List.take_length]; done))
  · intro e_ M_ hne_ hI_
    exact hI_.elim

theorem it_app0 {l : List Int} (hl : l.length ≤ 1099511627776) (hn : l.length = 0) : FnF Try.prog 68 true [.nilslice, .func (.func 66) [] [.ptrIn (.agg [.list (l.map encI)]) 0]] (.nilslice) := by
  refine fn_walkF Try.func68 (by kernel_rfl) (by kernel_rfl) (by kernel_rfl) (st := (stX (.tuple []) 13 [(0, .nilslice), (1, .func (.func 66) [] [.ptrIn (.agg [.list (l.map encI)]) 0])] [])) rfl ?_
  refine Ok.sq [] ?_
  refine Ok.ev2 400 [.d, .d] [1, 2, 4, 5, 6] 1 (st' := (stX .any 13 [(1, .func (.func 66) [] [.ptrIn (.agg [.list (l.map encI)]) 0]), (2, .ptr 0 0), (4, .nilslice), (5, .tuple []), (6, .tuple [])] [.cells [.nilslice]])) (e := .normal) (ob := []) trivial ?_
  refine seq_n ?_
  refine Ok.sq [true] ?_
  refine Ok.sq [true, false] ?_
  refine Ok.ev2 400 [.d] [2, 4, 5, 6] 1 (st' := (stX .any 13 [(2, .ptr 0 0), (4, .nilslice), (5, .tuple []), (6, .func (.func 66) [] [.ptrIn (.agg [.list (l.map encI)]) 0])] [.cells [.nilslice]])) (e := .normal) (ob := []) trivial ?_
  refine seq_n ?_
  refine Ok.bk [true, false, true] 0 ?_
  refine Ok.rangeP (j := 1) (g := .tmp 6) (ps := #[7]) [true, false, true, false] (by kernel_rfl) [2, 4, 5] rfl (bl := false) (args := [.ptrIn (.agg [.list (l.map encI)]) 0]) (ob := []) (by kernel_rfl) trivial (xs := l.map fun a => [encI a]) (val_iter (l := l) (by omega)) (len_all (fun _ => rfl)) (by kernel_rfl) (ob2 := []) (by kernel_rfl) trivial (by kernel_rfl) (fun k_ M_ => ((k_ = 0) ∧ M_ = [.cells [.nilslice]]) ∨ (∃ (b : Int), (0 < k_ ∧ k_ ≤ l.length) ∧ M_ = [.cells [.slice 2 0 k_ 0], .row 1 [iV b] 0, .row 1 ((l.take k_).map encI) 0])) (fun _ _ => False) (.inl (⟨rfl, rfl⟩)) ?_ ?_ ?_
  · intro k_ x_ M_ hx_ hI_
    obtain ⟨a, hr_, rfl⟩ := range_elem hx_
    rcases hI_ with ⟨h0, rfl⟩ | ⟨b, h1, rfl⟩
    · have hk : k_ < l.length := get_lt hr_
      refine st_is (st' := (stX .any 13 [(2, .ptr 0 0), (4, .nilslice), (5, .tuple []), (7, iV a)] [.cells [.nilslice]])) (by kernel_rfl) ?_
      refine Ok.ev2 400 [.d] [2, 4, 5] 1 (st' := (stX .any 13 [(2, .ptr 0 0), (4, .nilslice), (5, iV a)] [.cells [.nilslice]])) (e := .normal) (ob := []) trivial ?_
      refine ⟨rfl, ?_⟩
      refine Ok.ev2 400 [.d, .d, .d, .d, .d] [] 3 (st' := (stX .any 13 [] [.cells [.slice 2 0 1 0], .row 1 [iV a] 0, .row 1 [iV a] 0])) (e := .normal) (ob := [∀ e ∈ ([iV a] : List AV), belowV 3 e = true, ∀ e ∈ ([iV a] : List AV), belowV 3 e = true, (2 * ([iV a] : List AV).length + 1024) * 8 ≤ 2 ^ 48, ∀ y ∈ ([iV a] : List AV), (cellsOf y).length = 1 ∧ ∀ c ∈ cellsOf y, isCell c = true]) ⟨(by simp [belowV, idsOf, idsL]), (by simp [belowV, idsOf, idsL]), (by simp), one_c _, trivial⟩ ?_
      exact round_nj 3 (by kernel_rfl) (stX .any 13 [] [.cells [.slice 2 0 1 0], .row 1 [iV a] 0, .row 1 [iV a] 0]) (ob := [∀ e ∈ ([iV a] : List AV), idsOf e = [], ∀ e ∈ ([iV a] : List AV), idsOf e = []]) (by kernel_rfl) ⟨(by simp [idsOf, idsL]), (by simp [idsOf, idsL]), trivial⟩ (.inr (⟨a, (by omega), by subst h0; rw [app_one hr_]⟩))
    · have hk : k_ < l.length := get_lt hr_
      refine st_is (st' := (stX .any 13 [(2, .ptr 0 0), (4, .nilslice), (5, .tuple []), (7, iV a)] [.cells [.slice 2 0 k_ 0], .row 1 [iV b] 0, .row 1 ((l.take k_).map encI) 0])) (by kernel_rfl) ?_
      refine Ok.ev2 400 [.d] [2, 4, 5] 3 (st' := (stX .any 13 [(2, .ptr 0 0), (4, .nilslice), (5, iV a)] [.cells [.slice 2 0 k_ 0], .row 1 [iV b] 0, .row 1 ((l.take k_).map encI) 0])) (e := .normal) (ob := [∀ e ∈ ([iV b] : List AV), belowV 3 e = true, ∀ e ∈ ((l.take k_).map encI : List AV), belowV 3 e = true]) ⟨(by simp [belowV, idsOf, idsL]), below_ids (ids_map (fun _ => rfl) _), trivial⟩ ?_
      refine ⟨rfl, ?_⟩
      refine Ok.ev2 400 [.d, .d, .d, .r ((l.take (k_ + 1)).map encI), .d] [] 3 (st' := (stX .any 13 [] [.cells [.slice 2 0 (k_ + 1) 1], .row 1 [iV b] 0, .row 1 ((l.take (k_ + 1)).map encI) 1])) (e := .normal) (ob := [∀ e ∈ ([iV b] : List AV), belowV 3 e = true, ∀ e ∈ ((l.take (k_ + 1)).map encI : List AV), belowV 3 e = true, (((l.take k_).map encI).take k_ ++ [iV a] : List AV) = (l.take (k_ + 1)).map encI, (2 * (k_ + ([iV a] : List AV).length) + 1024) * 8 ≤ 2 ^ 48, ∀ y ∈ ([iV a] : List AV), (cellsOf y).length = 1 ∧ ∀ c ∈ cellsOf y, isCell c = true]) ⟨(by simp [belowV, idsOf, idsL]), below_ids (ids_map (fun _ => rfl) _), app_at hr_ (by rfl), (by simp only [List.length_cons, List.length_nil]; omega), one_c _, trivial⟩ ?_
      exact round_nj 3 (by kernel_rfl) (stX .any 13 [] [.cells [.slice 2 0 (k_ + 1) 0], .row 1 [iV b] 0, .row 1 ((l.take (k_ + 1)).map encI) 0]) (ob := [∀ e ∈ ([iV b] : List AV), idsOf e = [], ∀ e ∈ ((l.take (k_ + 1)).map encI : List AV), idsOf e = []]) (by kernel_rfl) ⟨(by simp [idsOf, idsL]), ids_map (fun _ => rfl) _, trivial⟩ (.inr (⟨b, (by omega), rfl⟩))
  · intro M_ hI_
    rcases hI_ with ⟨h0, rfl⟩ | ⟨b, h1, rfl⟩
    · have hd : (l.map fun a => [encI a]).length = l.length := List.length_map _
      refine st_to (s' := (stX .any 13 [(2, .ptr 0 0), (4, .nilslice), (5, .tuple [])] [.cells [.nilslice]])) (by kernel_rfl) ?_
      refine blk_n ?_
      refine seq_n ?_
      refine Ok.ev2 400 [.d, .d] [4] 1 (st' := (stX .any 13 [(4, .nilslice)] [.cells [.nilslice]])) (e := .ret) (ob := []) trivial ?_
      exact ⟨.inr rfl, finF_of (ob := [(.nilslice : AV) = (.nilslice : AV)]) (by kernel_rfl) ⟨rfl, trivial⟩⟩
    · have hd : (l.map fun a => [encI a]).length = l.length := List.length_map _
      refine st_to (s' := (stX .any 13 [(2, .ptr 0 0), (4, .nilslice), (5, .tuple [])] [.cells [.slice 2 0 ((l.map fun a => [encI a]).length) 0], .row 1 [iV b] 0, .row 1 ((l.take (l.map fun a => [encI a]).length).map encI) 0])) (by kernel_rfl) ?_
      refine blk_n ?_
      refine seq_n ?_
      refine Ok.ev2 400 [.d, .d] [4] 3 (st' := (stX .any 13 [(4, .slice 2 0 ((l.map fun a => [encI a]).length) 0)] [.cells [.slice 2 0 ((l.map fun a => [encI a]).length) 0], .row 1 [iV b] 0, .row 1 ((l.take (l.map fun a => [encI a]).length).map encI) 0])) (e := .ret) (ob := [∀ e ∈ ([iV b] : List AV), belowV 3 e = true, ∀ e ∈ ((l.take (l.map fun a => [encI a]).length).map encI : List AV), belowV 3 e = true]) ⟨(by simp [belowV, idsOf, idsL]), below_ids (ids_map (fun _ => rfl) _), trivial⟩ ?_
      exfalso; omega
  · intro e_ M_ hne_ hI_
    exact hI_.elim

theorem it_col {l : List Int} (hl : l.length ≤ 1099511627776) (hn : 0 < l.length) : FnL Try.prog 64 [] [.func (.func 66) [] [.ptrIn (.agg [.list (l.map encI)]) 0]] (.slice 0 0 l.length 0) [.row 1 (l.map encI) 0] := by
  refine fn_flowL Try.func64 (st := (stX (.tuple []) 5 [(0, .func (.func 66) [] [.ptrIn (.agg [.list (l.map encI)]) 0])] [])) ?_
  refine OkP.e 400 [.d, .d, .c (.slice 0 0 l.length 0) [.row 1 (l.map encI) 0], .d] [2] [0] (st' := (stX .any 5 [(2, .slice 0 0 l.length 0)] [.row 1 (l.map encI) 0])) (e := .ret) (ob := [∀ e ∈ (l.map encI : List AV), idsOf e = [], FnM Try.prog 68 [] [.nilslice, .func (.func 66) [] [.ptrIn (.agg [.list (l.map encI)]) 0]] (.slice 0 0 l.length 0) [.row 1 (l.map encI) 0], ∀ e ∈ (l.map encI : List AV), idsOf e = []]) ⟨ids_map (fun _ => rfl) _, it_app (l := l) (by omega) (by omega), ids_map (fun _ => rfl) _, trivial⟩ ?_
  exact ⟨.inr rfl, finL_of (r0 := .slice 0 0 l.length 0) (R0 := [.row 1 (l.map encI) 0]) (ob := [∀ e ∈ (l.map encI : List AV), idsOf e = []]) 1 ⟨ids_map (fun _ => rfl) _, trivial⟩ (rfl) (rfl)⟩

theorem it_col0 {l : List Int} (hl : l.length ≤ 1099511627776) (hn : l.length = 0) : FnF Try.prog 64 true [.func (.func 66) [] [.ptrIn (.agg [.list (l.map encI)]) 0]] (.nilslice) := by
  exact fn_e2 Try.func64 400 [.d, .d, .f true (.nilslice), .d] (ob := [FnF Try.prog 68 true [.nilslice, .func (.func 66) [] [.ptrIn (.agg [.list (l.map encI)]) 0]] (.nilslice), (.nilslice : AV) = (.nilslice : AV)]) ⟨it_app0 (l := l) (by omega) (by omega), rfl, trivial⟩

theorem num_sort0 : FnF Try.prog 65 true [.nilslice] (.tuple []) :=
  fnF_of (by kernel_rfl) [.slice none 0 0] (.tuple #[]) (fun w B vs hs hr => by
    obtain ⟨vs⟩ := vs
    match vs, hs with
    | [a], _ => have h0 := hr 0 _ rfl; cases h0; rfl) (fun _ _ => .tuple [] #[] rfl (fun i c h => by simp at h)) (fun w => (Try.slices_Sort_int_none none 0 w).mono fun e w' h => ⟨h.1, by rw [h.2]; exact Below.refl _ _⟩)
theorem num_compact0 : FnF Try.prog 45 true [.nilslice] .nilslice :=
  fnF_of (by kernel_rfl) [.slice none 0 0] (.slice none 0 0) (fun w B vs hs hr => by
    obtain ⟨vs⟩ := vs
    match vs, hs with
    | [a], _ => have h0 := hr 0 _ rfl; cases h0; rfl) (fun _ _ => .nilslice) (fun w => (Try.slices_Compact_int_empty none 0 w).mono fun e w' h => ⟨h.1, by rw [h.2]; exact Below.refl _ _⟩)

theorem it_srt0 {l : List Int} (hl : l.length ≤ 1099511627776) (hn : l.length = 0) : FnF Try.prog 46 true [.func (.func 66) [] [.ptrIn (.agg [.list (l.map encI)]) 0]] (.nilslice) := by
  exact fn_e2 Try.func46 400 [.d, .d, .f true (.nilslice), .d, .d, .f true (.tuple []), .d, .d] (ob := [FnF Try.prog 64 true [.func (.func 66) [] [.ptrIn (.agg [.list (l.map encI)]) 0]] (.nilslice), FnF Try.prog 65 true [.nilslice] (.tuple []), (.nilslice : AV) = (.nilslice : AV)]) ⟨it_col0 (l := l) (by omega) (by omega), num_sort0, rfl, trivial⟩

theorem it_srt {l : List Int} (hl : l.length ≤ 1099511627776) (hn : 0 < l.length) : FnM Try.prog 46 [] [.func (.func 66) [] [.ptrIn (.agg [.list (l.map encI)]) 0]] (.slice 0 0 l.length 0) [.row 1 ((sortI l).map encI) 0] := sorted_of hl hn (it_col hl hn).m
theorem it_val {l : List Int}  : FnL Try.prog 47 [] [.list (l.map encI)] (.func (.func 66) [] [.ptr 0 0]) [.cells [.list (l.map encI)]] := by
  refine fn_flowL Try.func47 (st := (stX (.tuple []) 4 [(0, .list (l.map encI))] [])) ?_
  refine OkP.e 400 [.d, .d, .d, .d] [2] [0] (st' := (stX .any 4 [(2, .func (.func 66) [] [.ptr 0 0])] [.cells [.list (l.map encI)]])) (e := .ret) (ob := []) trivial ?_
  exact ⟨.inr rfl, finL_of (r0 := .func (.func 66) [] [.ptr 0 0]) (R0 := [.cells [.list (l.map encI)]]) (ob := []) 1 trivial (rfl) (rfl)⟩

/-- The numbers of a list, in order, each once. -/
def rdS (l : List Int) : List Int := Lib.compact (sortI l)
theorem sort_ne {l : List Int} (h : ¬ l.length = 0) : sortI l ≠ [] := fun q => h (by rw [← sortI_len l, q]; rfl)
theorem sort_le (l : List Int) : (sortI l).length = l.length := sortI_len l
theorem rdS_nil {l : List Int} (h : l.length = 0) : [] = (rdS l).map encI := by rw [List.length_eq_zero_iff.1 h]; unfold rdS sortI; rw [List.mergeSort_nil]; rfl
theorem rdS_row (l : List Int) : (((cptI (sortI l)).map encI).drop 0).take (Lib.compact (sortI l)).length = (rdS l).map encI := by
  unfold cptI rdS
  rw [List.drop_zero, ← List.map_take, List.take_left']
  rfl
theorem num_reads {g : Ex} (he : OkE g) (hb : g.nodes ≤ 1099511627776) : FnF Try.prog 22 true [encE g] (.list ((rdS (rdX g)).map encI)) := by
  have kl : (rdX g).length ≤ g.nodes := rdX_len g
  have ks : (sortI (rdX g)).length = (rdX g).length := sort_le _
  by_cases q1 : (rdX g).length = 0
  · exact fn_e2 Try.func22 400 [.d, .d, .d, .f true (.list ((rdX g).map encI)), .c (.func (.func 66) [] [.ptr 0 0]) [.cells [.list ((rdX g).map encI)]], .f true (.nilslice), .f true (.nilslice), .d] (ob := [FnF Try.prog 48 true [.nilslice, .agg [iV g.op, iV g.n, iV g.v, .list (encA g)]] (.list ((rdX g).map encI)), FnM Try.prog 47 [] [.list ((rdX g).map encI)] (.func (.func 66) [] [.ptr 0 0]) [.cells [.list ((rdX g).map encI)]], FnF Try.prog 46 true [.func (.func 66) [] [.ptrIn (.agg [.list ((rdX g).map encI)]) 0]] (.nilslice), FnF Try.prog 45 true [.nilslice] (.nilslice), [] = ((rdS (rdX g)).map encI : List AV)]) ⟨(colw (by assumption) (by omega)), (it_val (l := rdX g)).m, it_srt0 (l := rdX g) (by omega) (by omega), num_compact0, (by first | exact rdS_nil (by omega) | exact rdS_row _), trivial⟩
  · exact fn_e2 Try.func22 400 [.d, .d, .d, .f true (.list ((rdX g).map encI)), .c (.func (.func 66) [] [.ptr 0 0]) [.cells [.list ((rdX g).map encI)]], .c (.slice 0 0 ((rdX g).length) 0) [.row 1 ((sortI (rdX g)).map encI) 0], .l [2] (.slice 0 0 ((Lib.compact (sortI (rdX g))).length) 0) [.row 1 ((cptI (sortI (rdX g))).map encI) 0], .d] (ob := [FnF Try.prog 48 true [.nilslice, .agg [iV g.op, iV g.n, iV g.v, .list (encA g)]] (.list ((rdX g).map encI)), FnM Try.prog 47 [] [.list ((rdX g).map encI)] (.func (.func 66) [] [.ptr 0 0]) [.cells [.list ((rdX g).map encI)]], FnM Try.prog 46 [] [.func (.func 66) [] [.ptrIn (.agg [.list ((rdX g).map encI)]) 0]] (.slice 0 0 ((rdX g).length) 0) [.row 1 ((sortI (rdX g)).map encI) 0], plainV (.slice 0 0 ((rdX g).length) 0) = true, ∀ x ∈ ([.row 1 ((sortI (rdX g)).map encI) 0] : List Blk), PlainB x, ∀ e ∈ ((sortI (rdX g)).map encI : List AV), idsOf e = [], FnL Try.prog 45 [.row 1 ((sortI (rdX g)).map encI) 0] [.slice 0 0 ((rdX g).length) 0] (.slice 0 0 ((Lib.compact (sortI (rdX g))).length) 0) [.row 1 ((cptI (sortI (rdX g))).map encI) 0], ∀ e ∈ ((sortI (rdX g)).map encI : List AV), idsOf e = [], ∀ e ∈ ((cptI (sortI (rdX g))).map encI : List AV), idsOf e = [], (((cptI (sortI (rdX g))).map encI : List AV).drop 0).take ((Lib.compact (sortI (rdX g))).length) = (rdS (rdX g)).map encI, ∀ e ∈ ((cptI (sortI (rdX g))).map encI : List AV), plainE e]) ⟨(colw (by assumption) (by omega)), (it_val (l := rdX g)).m, it_srt (l := rdX g) (by omega) (by omega), rfl, (by simp [PlainB, plainV, plainL]), ids_map (fun _ => rfl) _, (by have h_ := num_compact (l := sortI (rdX g)) (sort_ne (by omega)) (by rw [sortI_len]; omega); rw [sortI_len] at h_; exact h_), ids_map (fun _ => rfl) _, ids_map (fun _ => rfl) _, (by first | exact rdS_nil (by omega) | exact rdS_row _), pl_map (fun _ => rfl) (fun _ => rfl) _, trivial⟩

theorem num_readsC {g : Co} (hc : OkC g) (hb : g.nodes ≤ 1099511627776) : FnF Try.prog 23 true [encC g] (.list ((rdS (rdC g)).map encI)) := by
  have kl : (rdC g).length ≤ g.nodes := rdC_len g
  have ks : (sortI (rdC g)).length = (rdC g).length := sort_le _
  by_cases q1 : (rdC g).length = 0
  · exact fn_e2 Try.func23 400 [.d, .d, .d, .f true (.list ((rdC g).map encI)), .c (.func (.func 66) [] [.ptr 0 0]) [.cells [.list ((rdC g).map encI)]], .f true (.nilslice), .f true (.nilslice), .d] (ob := [FnF Try.prog 49 true [.nilslice, .agg [iV g.op, .list (g.a.map encE), .list (encB g)]] (.list ((rdC g).map encI)), FnM Try.prog 47 [] [.list ((rdC g).map encI)] (.func (.func 66) [] [.ptr 0 0]) [.cells [.list ((rdC g).map encI)]], FnF Try.prog 46 true [.func (.func 66) [] [.ptrIn (.agg [.list ((rdC g).map encI)]) 0]] (.nilslice), FnF Try.prog 45 true [.nilslice] (.nilslice), [] = ((rdS (rdC g)).map encI : List AV)]) ⟨(cclw (by assumption) (by omega)), (it_val (l := rdC g)).m, it_srt0 (l := rdC g) (by omega) (by omega), num_compact0, (by first | exact rdS_nil (by omega) | exact rdS_row _), trivial⟩
  · exact fn_e2 Try.func23 400 [.d, .d, .d, .f true (.list ((rdC g).map encI)), .c (.func (.func 66) [] [.ptr 0 0]) [.cells [.list ((rdC g).map encI)]], .c (.slice 0 0 ((rdC g).length) 0) [.row 1 ((sortI (rdC g)).map encI) 0], .l [2] (.slice 0 0 ((Lib.compact (sortI (rdC g))).length) 0) [.row 1 ((cptI (sortI (rdC g))).map encI) 0], .d] (ob := [FnF Try.prog 49 true [.nilslice, .agg [iV g.op, .list (g.a.map encE), .list (encB g)]] (.list ((rdC g).map encI)), FnM Try.prog 47 [] [.list ((rdC g).map encI)] (.func (.func 66) [] [.ptr 0 0]) [.cells [.list ((rdC g).map encI)]], FnM Try.prog 46 [] [.func (.func 66) [] [.ptrIn (.agg [.list ((rdC g).map encI)]) 0]] (.slice 0 0 ((rdC g).length) 0) [.row 1 ((sortI (rdC g)).map encI) 0], plainV (.slice 0 0 ((rdC g).length) 0) = true, ∀ x ∈ ([.row 1 ((sortI (rdC g)).map encI) 0] : List Blk), PlainB x, ∀ e ∈ ((sortI (rdC g)).map encI : List AV), idsOf e = [], FnL Try.prog 45 [.row 1 ((sortI (rdC g)).map encI) 0] [.slice 0 0 ((rdC g).length) 0] (.slice 0 0 ((Lib.compact (sortI (rdC g))).length) 0) [.row 1 ((cptI (sortI (rdC g))).map encI) 0], ∀ e ∈ ((sortI (rdC g)).map encI : List AV), idsOf e = [], ∀ e ∈ ((cptI (sortI (rdC g))).map encI : List AV), idsOf e = [], (((cptI (sortI (rdC g))).map encI : List AV).drop 0).take ((Lib.compact (sortI (rdC g))).length) = (rdS (rdC g)).map encI, ∀ e ∈ ((cptI (sortI (rdC g))).map encI : List AV), plainE e]) ⟨(cclw (by assumption) (by omega)), (it_val (l := rdC g)).m, it_srt (l := rdC g) (by omega) (by omega), rfl, (by simp [PlainB, plainV, plainL]), ids_map (fun _ => rfl) _, (by have h_ := num_compact (l := sortI (rdC g)) (sort_ne (by omega)) (by rw [sortI_len]; omega); rw [sortI_len] at h_; exact h_), ids_map (fun _ => rfl) _, ids_map (fun _ => rfl) _, (by first | exact rdS_nil (by omega) | exact rdS_row _), pl_map (fun _ => rfl) (fun _ => rfl) _, trivial⟩

end Go.Proofs.Ytfhfdenmcneamaa
