/- What reports say together: package field, walked by hand. -/
import Derived.Test.YtglfbdicclepcaaEvH
import Derived.Test.YtglfbdicclepcaaFdM
import Derived.Test.YtglfbdicclepcaaFdNum
import Derived.Maps.RangeRun
set_option linter.unusedVariables false
set_option linter.unusedSimpArgs false
namespace Go.Proofs.Ytglfbdicclepcaa
open Go.RowKit
open Go.ChangeMaps (setBlock)
set_option maxRecDepth 100000
set_option maxHeartbeats 1000000 in
theorem fd_grow {E0 C1 S : List AV} {s0 s1 s2 s3 n0 n1 n2 n3 : Int} : FnM Try.prog 36 [.mp E0, .cells C1, .cells [.int .i64 (s0), .int .i64 (s1), .int .i64 (s2), .int .i64 (s3), .map 3], .mp S, .row 2 [.agg [.ptr 2 0, .int .i64 (n0)], .agg [.ptr 2 1, .int .i64 (n1)], .agg [.ptr 2 2, .int .i64 (n2)], .agg [.ptr 2 3, .int .i64 (n3)]] 0] [.slice 4 0 4 0] (.tuple []) [.mp E0, .cells C1, .cells [.int .i64 (max s0 n0), .int .i64 (max s1 n1), .int .i64 (max s2 n2), .int .i64 (max s3 n3), .map 3], .mp S, .row 2 [.agg [.ptr 2 0, .int .i64 (n0)], .agg [.ptr 2 1, .int .i64 (n1)], .agg [.ptr 2 2, .int .i64 (n2)], .agg [.ptr 2 3, .int .i64 (n3)]] 0, .cells [.ptr 2 0, .int .i64 (n0)], .cells [.ptr 2 1, .int .i64 (n1)], .cells [.ptr 2 2, .int .i64 (n2)], .cells [.ptr 2 3, .int .i64 (n3)]] :=
  fn_evM (by kernel_rfl) Try.func36 (by kernel_rfl) 400 [.d, .d, .d, .d, .d, .d, .d, .d, .d, .d, .d, .d, .d, .d, .d, .d, .d, .d, .d, .d, .v (.int .i64 1), .d, .d, .d, .d, .d, .d, .d, .d, .d, .d, .d, .d, .d, .d, .d, .d, .d, .d, .v (.int .i64 2), .d, .d, .d, .d, .d, .d, .d, .d, .d, .d, .d, .d, .d, .d, .d, .d, .d, .d, .v (.int .i64 3), .d, .d, .d, .d, .d, .d, .d, .d, .d, .d, .d, .d, .d, .d, .d, .d, .d, .d, .v (.int .i64 4), .d, .d, .d] (ob := [0 ≤ (0 : Int) ∧ (0 : Int) < (4 : Nat), (.int .i64 (IntKind.wrap .i64 (0 + 1)) : AV) = .int .i64 1, 0 ≤ (1 : Int) ∧ (1 : Int) < (4 : Nat), (.int .i64 (IntKind.wrap .i64 (1 + 1)) : AV) = .int .i64 2, 0 ≤ (2 : Int) ∧ (2 : Int) < (4 : Nat), (.int .i64 (IntKind.wrap .i64 (2 + 1)) : AV) = .int .i64 3, 0 ≤ (3 : Int) ∧ (3 : Int) < (4 : Nat), (.int .i64 (IntKind.wrap .i64 (3 + 1)) : AV) = .int .i64 4]) (by kernel_rfl) (by kernel_rfl) ⟨by decide, rfl, by decide, rfl, by decide, rfl, by decide, rfl, trivial⟩

noncomputable abbrev gC : Code := codeE Try.f19
noncomputable abbrev gAt (p : List Nat) : Code := cE gC (rl p)
def cellsM (m : Mc) (q : Nat) : List AV := [.int .i64 m.seen, .int .i64 m.looked, .int .i64 m.broken, .int .i64 m.last, .map q]
def cellsK (c : Ct) : List AV := [.int .i64 c.machine, .int .i64 c.seq, .int .i64 c.promise, .int .i64 c.seen, .int .i64 c.looked, .int .i64 c.broken, .int .u64 c.tag]
/-- What is known of a machine's blocks. -/
def Own (w : World) (x : Lo) : Prop :=
  (∃ vs t, w.heap[x.sb]? = some (.cells vs t (0, 0)) ∧ vs.size = 5 ∧ vs.getD 0 undef = .int .i64 x.m.seen ∧ vs.getD 1 undef = .int .i64 x.m.looked ∧ vs.getD 2 undef = .int .i64 x.m.broken ∧ vs.getD 3 undef = .int .i64 x.m.last ∧ vs.getD 4 undef = .map (some x.qb)) ∧
  ∃ es : Array MapEntry, w.heap[x.qb]? = some (.map es es.size) ∧ es.size = x.m.seqs.length ∧ ∀ (i : Nat) (k : Int) (e : MapEntry), x.m.seqs[i]? = some k → es[i]? = some e → e.key = .int .i64 k ∧ e.born = i ∧ e.val = .bool true
theorem Own.keep {w w' : World} {x : Lo} (h : Own w x) (h1 : w'.heap[x.sb]? = w.heap[x.sb]?) (h2 : w'.heap[x.qb]? = w.heap[x.qb]?) : Own w' x := by
  unfold Own at *; rw [h1, h2]; exact h
theorem Own.fits {A : Nat → Prop} {m : Mem} {ρ : Nat → Nat} {w : World} {x : Lo} {q : Nat} (h : Own w x) (hq : ρ q = x.qb) (hm : m q = some (.mp (x.m.seqs.map encS))) :
    FitsB A m ρ w x.sb (.cells (cellsM x.m q)) ∧ FitsB A m ρ w x.qb (.mp (x.m.seqs.map encS)) := by
  obtain ⟨⟨vs, t, h1, h2, a0, a1, a2, a3, a4⟩, es, k1, k2, k3⟩ := h
  refine ⟨⟨vs, t, h1, h2, fun i c hc => ?_⟩, ⟨es, k1, by simpa using k2, fun i y e hy he => ?_⟩⟩
  · match i, hc with
    | 0, hc => simp [cellsM] at hc; subst hc; rw [a0]; exact .base (.int _ _)
    | 1, hc => simp [cellsM] at hc; subst hc; rw [a1]; exact .base (.int _ _)
    | 2, hc => simp [cellsM] at hc; subst hc; rw [a2]; exact .base (.int _ _)
    | 3, hc => simp [cellsM] at hc; subst hc; rw [a3]; exact .base (.int _ _)
    | 4, hc => simp [cellsM] at hc; subst hc; rw [a4, ← hq]; exact .map q _ hm
    | i + 5, hc => simp [cellsM] at hc
  · rw [List.getElem?_map] at hy
    obtain ⟨k, hk, rfl⟩ := Option.map_eq_some_iff.1 hy
    obtain ⟨e1, e2, e3⟩ := k3 i k e hk he
    exact ⟨k, .bool true, rfl, e1, e2, by rw [e3]; exact .base (.bool _)⟩
theorem own_of {A : Nat → Prop} {m : Mem} {ρ : Nat → Nat} {w : World} {x : Lo} {s q : Nat} (h1 : FitsB A m ρ w (ρ s) (.cells (cellsM x.m q))) (h2 : FitsB A m ρ w (ρ q) (.mp (x.m.seqs.map encS))) (hs : ρ s = x.sb) (hq : ρ q = x.qb) : Own w x := by
  rw [hs] at h1
  rw [hq] at h2
  obtain ⟨vs, t, k1, k2, k3⟩ := h1
  obtain ⟨es, q1, q2, q3⟩ := h2
  refine ⟨⟨vs, t, k1, k2, rep_int (k3 0 _ rfl), rep_int (k3 1 _ rfl), rep_int (k3 2 _ rfl), rep_int (k3 3 _ rfl), ?_⟩, es, q1, by simpa using q2, fun i k e hk he => ?_⟩
  · rw [← hq]; exact (rep_map (k3 4 _ rfl)).1
  · obtain ⟨k', v, e1, e2, e3, e4⟩ := q3 i (encS k) e (by rw [List.getElem?_map, hk]; rfl) he
    unfold encS at e1
    simp only [AV.agg.injEq, List.cons.injEq, AV.int.injEq, true_and, and_true] at e1
    obtain ⟨rfl, rfl⟩ := e1
    exact ⟨e2, e3, rep_bool e4⟩
/-- The table of machines. -/
def MapAt (w : World) (mb : Nat) (T : List Lo) : Prop := ∃ ents : Array MapEntry, w.heap[mb]? = some (.map ents ents.size) ∧ ents.size = T.length ∧ ∀ (i : Nat) (x : Lo) (e : MapEntry), T[i]? = some x → ents[i]? = some e → e.key = .int .i64 x.m.id ∧ e.born = i ∧ e.val = ptrV x.sb
theorem map_of {A : Nat → Prop} {m : Mem} {ρ : Nat → Nat} {w : World} {mb : Nat} {T : List Lo} (h : FitsB A m ρ w mb (.mp (mpT T))) : MapAt w mb T := by
  obtain ⟨es, q1, q2, q3⟩ := h
  refine ⟨es, q1, by simpa [mpT] using q2, fun i x e hk he => ?_⟩
  obtain ⟨k', v, e1, e2, e3, e4⟩ := q3 i (mpE x) e (by unfold mpT; rw [List.getElem?_map, hk]; rfl) he
  unfold mpE at e1
  simp only [AV.agg.injEq, List.cons.injEq, AV.int.injEq, true_and, and_true] at e1
  obtain ⟨rfl, rfl⟩ := e1
  exact ⟨e2, e3, rep_val e4⟩
theorem MapAt.fits {A : Nat → Prop} {m : Mem} {ρ : Nat → Nat} {w : World} {mb : Nat} {T : List Lo} (h : MapAt w mb T) : FitsB A m ρ w mb (.mp (mpT T)) := by
  obtain ⟨es, q1, q2, q3⟩ := h
  refine ⟨es, q1, by simpa [mpT] using q2, fun i y e hy he => ?_⟩
  unfold mpT at hy
  rw [List.getElem?_map] at hy
  obtain ⟨x, hk, rfl⟩ := Option.map_eq_some_iff.1 hy
  obtain ⟨e1, e2, e3⟩ := q3 i x e hk he
  exact ⟨x.m.id, .val (ptrV x.sb), rfl, e1, e2, by rw [e3]; exact .base (.val _)⟩
structure Hid (w1 : World) (mb : Nat) (w : World) (T : List Lo) : Prop where
  own : ∀ x ∈ T, Own w x
  hi : ∀ x ∈ T, w1.heap.size ≤ x.sb ∧ w1.heap.size ≤ x.qb
  nd : (T.map Lo.sb ++ T.map Lo.qb).Nodup
  low : ∀ b, b < w1.heap.size → b ≠ mb → w.heap[b]? = w1.heap[b]?
  size : w1.heap.size ≤ w.heap.size
theorem Own.lt {w : World} {x : Lo} (h : Own w x) : x.sb < w.heap.size ∧ x.qb < w.heap.size := by
  obtain ⟨⟨vs, t, h1, _⟩, es, k1, _⟩ := h
  exact ⟨(Array.getElem?_eq_some_iff.1 h1).1, (Array.getElem?_eq_some_iff.1 k1).1⟩
theorem nd_split {T : List Lo} (h : (T.map Lo.sb ++ T.map Lo.qb).Nodup) : (∀ (i j : Nat) (x y : Lo), T[i]? = some x → T[j]? = some y → x.sb = y.sb → i = j) ∧ (∀ (i j : Nat) (x y : Lo), T[i]? = some x → T[j]? = some y → x.qb = y.qb → i = j) ∧ ∀ x ∈ T, ∀ y ∈ T, x.sb ≠ y.qb := by
  obtain ⟨h1, h2, h3⟩ := List.nodup_append.1 h
  have key : ∀ (f : Lo → Nat), (T.map f).Nodup → ∀ (i j : Nat) (x y : Lo), T[i]? = some x → T[j]? = some y → f x = f y → i = j := fun f hf i j x y hx hy he => by
    have e1 : (T.map f)[i]? = some (f x) := by rw [List.getElem?_map, hx]; rfl
    have e2 : (T.map f)[j]? = some (f y) := by rw [List.getElem?_map, hy]; rfl
    have hi := (List.getElem?_eq_some_iff.1 e1).1
    exact (List.getElem?_inj hi hf).1 (by rw [e1, e2, he])
  exact ⟨key _ h1, key _ h2, fun x hx y hy => h3 _ (List.mem_map.2 ⟨x, hx, rfl⟩) _ (List.mem_map.2 ⟨y, hy, rfl⟩)⟩
structure Env (B : Bs) (w1 : World) (mb : Nat) (keys : List Int) (l : List Ct) (v0 v16 : Value) : Prop where
  e0 : Env0 B
  n1 : B.w.heap.size ≤ w1.heap.size
  mbd : B.w.heap.size ≤ mb ∧ mb < w1.heap.size ∧ B.A mb
  A : ∀ b, w1.heap.size ≤ b → B.A b
  r0 : RI w1 (fun b => B.A b ∧ b < w1.heap.size ∧ b ≠ mb) (.list (keys.map encU)) v0
  r16 : RI w1 (fun b => B.A b ∧ b < w1.heap.size ∧ b ≠ mb) (.list (l.map encK)) v16
theorem fm_nil {α : Type} {p : α → Prop} : ∀ x ∈ ([] : List α), p x := fun x h => by cases h
theorem fm_cons {α : Type} {p : α → Prop} {a : α} {l : List α} (h : p a) (k : ∀ x ∈ l, p x) : ∀ x ∈ a :: l, p x := fun x hx => by
  rcases List.mem_cons.1 hx with rfl | hx
  · exact h
  · exact k x hx
section
variable {B : Bs} {w1 : World} {mb : Nat} {keys : List Int} {l : List Ct} {v0 v16 p6 : Value} {p : Int} {Q : EvX → St → Prop}
theorem Env.pin {m : Mem} {ρ : Nat → Nat} {w : World} {x : AV} {v : Value} (hE : Env B w1 mb keys l v0 v16) (hr : RI w1 (fun b => B.A b ∧ b < w1.heap.size ∧ b ≠ mb) x v) (hlow : ∀ b, b < w1.heap.size → b ≠ mb → w.heap[b]? = w1.heap[b]?) (hs : w1.heap.size ≤ w.heap.size)
    (hm : ∀ id, m id ≠ none → ρ id = mb ∨ w1.heap.size ≤ ρ id) : Rep B.A m ρ w (.pin x v) v :=
  .base (.pin _ _ (hr.mono (fun b hb => ⟨hb.1, Nat.lt_of_lt_of_le hb.2.1 hs, fun id hid he => by
    rcases hm id hid with h | h
    · exact hb.2.2 (he ▸ h)
    · have := hb.2.1; omega⟩) fun b hb o => World.cell?_of_block (hlow b hb.2.1 hb.2.2)))
/-- At the loop's head. -/
abbrev stL (keys : List Int) (l : List Ct) (v0 v16 p6 : Value) (p : Int) (i : Nat) (T : List Lo) : St :=
  stX .any 130 [(0, .pin (.list (keys.map encU)) v0), (2, .int .i64 p), (6, .val p6), (7, .map 0), (16, .pin (.list (l.map encK)) v16), (17, .int .i64 (l.length : Int)), (18, .int .i64 ((i : Nat) : Int))] [.mp (mpT T)]
/-- A machine is found. -/
abbrev stM (keys : List Int) (l : List Ct) (v0 v16 p6 : Value) (p : Int) (i : Nat) (T : List Lo) (c : Ct) (b : Nat) : St :=
  stX .any 130 [(0, .pin (.list (keys.map encU)) v0), (2, .int .i64 p), (6, .val p6), (7, .map 0), (9, .ptr 1 0), (10, .val (ptrV b)), (16, .pin (.list (l.map encK)) v16), (17, .int .i64 (l.length : Int)), (18, .int .i64 ((i : Nat) : Int))] [.mp (mpT T), .cells (cellsK c)]
theorem fits2 {A : Nat → Prop} {m : Mem} {ρ : Nat → Nat} {w : World} (n : Nat) (hm : ∀ id, n ≤ id → m id = none) (hinj : ∀ i j, i < n → j < n → ρ i = ρ j → i = j) (h : ∀ id b, id < n → m id = some b → FitsB A m ρ w (ρ id) b) : Fits A m ρ w :=
  ⟨fun i j hi hj he => hinj i j (Nat.lt_of_not_le fun h => hi (hm i h)) (Nat.lt_of_not_le fun h => hj (hm j h)) he, fun id b hb => h id b (Nat.lt_of_not_le fun h => by rw [hm id h] at hb; cases hb) hb⟩
theorem cells_keep {A A' : Nat → Prop} {m m' : Mem} {ρ ρ' : Nat → Nat} {w : World} {b : Nat} {cs : List AV} (h : FitsB A m ρ w b (.cells cs)) (hc : ∀ c ∈ cs, ∃ k n, c = .int k n) : FitsB A' m' ρ' w b (.cells cs) := by
  obtain ⟨vs, t, h1, h2, h3⟩ := h
  refine ⟨vs, t, h1, h2, fun i c hi => ?_⟩
  obtain ⟨k, n, rfl⟩ := hc c (List.mem_of_getElem? hi)
  rw [rep_int (h3 i _ hi)]
  exact .base (.int _ _)
theorem cellsK_int (c : Ct) : ∀ x ∈ cellsK c, ∃ k n, x = .int k n := fun x hx => by
  simp only [cellsK, List.mem_cons, List.not_mem_nil, or_false] at hx
  rcases hx with rfl | rfl | rfl | rfl | rfl | rfl | rfl <;> exact ⟨_, _, rfl⟩
end
section
variable {B : Bs} {w1 : World} {mb : Nat} {keys : List Int} {l : List Ct} {v0 v16 p6 : Value} {p : Int} {Q : EvX → St → Prop}
theorem set_map {α β : Type} {f : α → β} {T : List α} {k : Nat} {x y : α} (h : T[k]? = some x) (he : f y = f x) : (T.set k y).map f = T.map f := by
  rw [List.map_set, he]
  apply List.ext_getElem?
  intro i
  rw [List.getElem?_set]
  split
  · rename_i e
    subst e
    split
    · rw [List.getElem?_map, h]; rfl
    · rename_i hl; rw [List.getElem?_eq_none (by omega)]
  · rfl
/-- The machine's blocks, named. -/
def ρM (mb c s q : Nat) : Nat → Nat
  | 0 => mb
  | 1 => c
  | 2 => s
  | _ => q
abbrev stT (keys : List Int) (l : List Ct) (v0 v16 p6 : Value) (p : Int) (i : Nat) (T : List Lo) (c : Ct) (x : Mc) : St :=
  stX .any 130 [(0, .pin (.list (keys.map encU)) v0), (2, .int .i64 p), (6, .val p6), (7, .map 0), (9, .ptr 1 0), (10, .ptr 2 0), (16, .pin (.list (l.map encK)) v16), (17, .int .i64 (l.length : Int)), (18, .int .i64 ((i : Nat) : Int))] [.mp (mpT T), .cells (cellsK c), .cells (cellsM x 3), .mp (x.seqs.map encS)]
theorem ids_mpT (T : List Lo) : ∀ e ∈ mpT T, idsOf e = [] := fun e he => by
  obtain ⟨x, _, rfl⟩ := List.mem_map.1 he; rfl
theorem ids_encS (l : List Int) : ∀ e ∈ l.map encS, idsOf e = [] := fun e he => by
  obtain ⟨x, _, rfl⟩ := List.mem_map.1 he; rfl
theorem gat_take (hE : Env B w1 mb keys l v0 v16) {i k : Nat} {T : List Lo} {x : Lo} {c : Ct} {ρ : Nat → Nat} {a : Act} {w : World} (hk : T[k]? = some x) (hA : At B 0 (stM keys l v0 v16 p6 p i T c x.sb) ρ a w) (hmb : ρ 0 = mb) (h1 : w1.heap.size ≤ ρ 1) (hH : Hid w1 mb w T) (hsep : ∀ y ∈ T, y.sb ≠ ρ 1 ∧ y.qb ≠ ρ 1) :
    At B 0 (stT keys l v0 v16 p6 p i T c x.m) (ρM mb (ρ 1) x.sb x.qb) a w := by
  have hx := List.mem_of_getElem? hk
  have hO := hH.own x hx
  have hhi := hH.hi x hx
  have n3 := (nd_split hH.nd).2.2 x hx x hx
  have hs := hsep x hx
  have hb := hE.mbd
  have hF0 := hA.fits
  have four : ∀ {i : Nat}, i < 4 → i = 0 ∨ i = 1 ∨ i = 2 ∨ i = 3 := fun h => by omega
  have hF : Fits B.A (memL (stT keys l v0 v16 p6 p i T c x.m).mem) (ρM mb (ρ 1) x.sb x.qb) w := by
    refine fits2 4 (fun id h => List.getElem?_eq_none (by simpa using h)) ?_ ?_
    · intro i j hi hj he
      rcases four hi with rfl | rfl | rfl | rfl <;> rcases four hj with rfl | rfl | rfl | rfl <;> first | rfl | (exfalso; simp only [ρM] at he; omega)
    · intro id b hid hb'
      rcases four hid with rfl | rfl | rfl | rfl
      · cases hb'
        have := hF0.at_ 0 _ rfl
        rw [hmb] at this
        exact (map_of this).fits
      · cases hb'
        exact cells_keep (hF0.at_ 1 _ rfl) (cellsK_int c)
      · cases hb'
        exact (hO.fits (q := 3) rfl rfl).1
      · cases hb'
        exact (hO.fits (q := 3) rfl rfl).2
  have hnm : ∀ id, memL (stT keys l v0 v16 p6 p i T c x.m).mem id ≠ none → ρM mb (ρ 1) x.sb x.qb id = mb ∨ w1.heap.size ≤ ρM mb (ρ 1) x.sb x.qb id := fun id hid => by
    match id with
    | 0 => exact .inl rfl
    | 1 => exact .inr h1
    | 2 => exact .inr hhi.1
    | id + 3 => exact .inr hhi.2
  refine at_view hE.e0 hA rfl (hA.asize.trans ((fillT_len _ _ _).trans (fillT_len _ _ _).symm)) (.refl _ _) hF (rep_fill (f := fun t => a.tmps.getD t undef) (fm_cons ?_ (fm_cons ?_ (fm_cons ?_ (fm_cons ?_ (fm_cons ?_ (fm_cons ?_ (fm_cons ?_ (fm_cons ?_ (fm_cons ?_ fm_nil)))))))))) fun id hid => ?_
  · show Rep _ _ _ _ (.pin _ v0) (a.tmps.getD 0 undef)
    rw [rep_pin (hA.rep 0 _ rfl)]; exact hE.pin hE.r0 hH.low hH.size hnm
  · show Rep _ _ _ _ _ (a.tmps.getD 2 undef)
    rw [rep_int (hA.rep 2 _ rfl)]; exact .base (.int _ _)
  · show Rep _ _ _ _ _ (a.tmps.getD 6 undef)
    rw [rep_val (hA.rep 6 _ rfl)]; exact .base (.val _)
  · show Rep _ _ _ _ _ (a.tmps.getD 7 undef)
    rw [(rep_map (hA.rep 7 _ rfl)).1, hmb]; exact .map 0 (mpT T) rfl
  · show Rep _ _ _ _ _ (a.tmps.getD 9 undef)
    rw [(rep_ptr (hA.rep 9 _ rfl)).1]; exact .ptr 1 0 (cellsK c) rfl
  · show Rep _ _ _ _ _ (a.tmps.getD 10 undef)
    rw [rep_val (hA.rep 10 _ rfl)]; exact .ptr 2 0 (cellsM x.m 3) rfl
  · show Rep _ _ _ _ (.pin _ v16) (a.tmps.getD 16 undef)
    rw [rep_pin (hA.rep 16 _ rfl)]; exact hE.pin hE.r16 hH.low hH.size hnm
  · show Rep _ _ _ _ _ (a.tmps.getD 17 undef)
    rw [rep_int (hA.rep 17 _ rfl)]; exact .base (.int _ _)
  · show Rep _ _ _ _ _ (a.tmps.getD 18 undef)
    rw [rep_int (hA.rep 18 _ rfl)]; exact .base (.int _ _)
  · rcases hnm id hid with h | h
    · rw [h]; exact ⟨hb.1, hb.2.2⟩
    · exact ⟨Nat.le_trans hE.n1 h, hE.A _ h⟩
end
section
variable {B : Bs} {w1 : World} {mb : Nat} {keys : List Int} {l : List Ct} {v0 v16 p6 : Value} {p : Int} {Q : EvX → St → Prop}
abbrev stU (keys : List Int) (l : List Ct) (v0 v16 p6 : Value) (p : Int) (i : Nat) (T : List Lo) (x : Mc) : St :=
  stX .any 130 [(0, .pin (.list (keys.map encU)) v0), (2, .int .i64 p), (6, .val p6), (7, .map 0), (16, .pin (.list (l.map encK)) v16), (17, .int .i64 (l.length : Int)), (18, .int .i64 ((i : Nat) : Int))] [.mp (mpT T), .cells (cellsM x 2), .mp (x.seqs.map encS)]
theorem set_mem {α : Type} {T : List α} {k : Nat} {x y z : α} (h : z ∈ T.set k y) : (z = y ∧ k < T.length) ∨ ∃ j, j ≠ k ∧ T[j]? = some z := by
  obtain ⟨j, hj⟩ := List.mem_iff_getElem?.1 h
  rw [List.getElem?_set] at hj
  split at hj
  · split at hj
    · exact .inl ⟨(Option.some.inj hj).symm, by assumption⟩
    · cases hj
  · rename_i hne; exact .inr ⟨j, fun e => hne e.symm, hj⟩
theorem gat_hide (hE : Env B w1 mb keys l v0 v16) {i k : Nat} {T : List Lo} {x : Lo} {c : Ct} {ρ : Nat → Nat} {a : Act} {w w0 : World} {cb : Nat} (hk : T[k]? = some x) (hA : At B 0 (stU keys l v0 v16 p6 p i T (hitM x.m c)) ρ a w) (h0 : ρ 0 = mb) (h1 : ρ 1 = x.sb) (h2 : ρ 2 = x.qb)
    (hH : Hid w1 mb w0 T) (hsep : ∀ y ∈ T, y.sb ≠ cb ∧ y.qb ≠ cb) (hc : w1.heap.size ≤ cb) (hsz : w0.heap.size ≤ w.heap.size) (hfr : ∀ b, b < w0.heap.size → b ≠ mb → b ≠ cb → b ≠ x.sb → b ≠ x.qb → w.heap[b]? = w0.heap[b]?) :
    At B 0 (stL keys l v0 v16 p6 p i (T.set k (hitL x c))) ρ a w ∧ Hid w1 mb w (T.set k (hitL x c)) := by
  have hx := List.mem_of_getElem? hk
  have hhi := hH.hi x hx
  obtain ⟨n1, n2, n3⟩ := nd_split hH.nd
  have hb := hE.mbd
  have hF0 := hA.fits
  have hown : Own w (hitL x c) := own_of (x := hitL x c) (s := 1) (q := 2) (hF0.at_ 1 _ rfl) (hF0.at_ 2 _ rfl) h1 h2
  have hHid : Hid w1 mb w (T.set k (hitL x c)) := by
    refine ⟨fun y hy => ?_, fun y hy => ?_, ?_, fun b hb1 hb2 => ?_, Nat.le_trans hH.size hsz⟩
    · rcases set_mem (x := x) hy with ⟨rfl, _⟩ | ⟨j, hj, hy⟩
      · exact hown
      · have hm := List.mem_of_getElem? hy
        have ho := hH.own y hm
        have hl := ho.lt
        have hs := hsep y hm
        have hh := hH.hi y hm
        refine ho.keep (hfr _ hl.1 (by omega) hs.1 (fun e => hj (n1 j k y x hy hk e)) (n3 y hm x hx)) (hfr _ hl.2 (by omega) hs.2 (fun e => n3 x hx y hm e.symm) (fun e => hj (n2 j k y x hy hk e)))
    · rcases set_mem (x := x) hy with ⟨rfl, _⟩ | ⟨j, hj, hy⟩
      · exact hhi
      · exact hH.hi y (List.mem_of_getElem? hy)
    · rw [set_map hk (by rfl), set_map hk (by rfl)]; exact hH.nd
    · rw [hfr b (Nat.lt_of_lt_of_le hb1 hH.size) hb2 (by omega) (by omega) (by omega)]; exact hH.low b hb1 hb2
  refine ⟨?_, hHid⟩
  have hnm : ∀ id, memL (stL keys l v0 v16 p6 p i (T.set k (hitL x c))).mem id ≠ none → ρ id = mb ∨ w1.heap.size ≤ ρ id := fun id hid => by
    match id with
    | 0 => exact .inl h0
    | id + 1 => exact absurd (by simp [memL]) hid
  have hF : Fits B.A (memL (stL keys l v0 v16 p6 p i (T.set k (hitL x c))).mem) ρ w := by
    refine fits2 1 (fun id h => List.getElem?_eq_none (by simpa using h)) (fun i j hi hj _ => by omega) ?_
    intro id b hid hb'
    obtain rfl : id = 0 := by omega
    cases hb'
    rw [mp_set hk]
    exact (map_of (hF0.at_ 0 _ rfl)).fits
  refine at_view hE.e0 hA rfl (hA.asize.trans ((fillT_len _ _ _).trans (fillT_len _ _ _).symm)) (.refl _ _) hF (rep_fill (f := fun t => a.tmps.getD t undef) (fm_cons ?_ (fm_cons ?_ (fm_cons ?_ (fm_cons ?_ (fm_cons ?_ (fm_cons ?_ (fm_cons ?_ fm_nil)))))))) fun id hid => ?_
  · show Rep _ _ _ _ (.pin _ v0) (a.tmps.getD 0 undef)
    rw [rep_pin (hA.rep 0 _ rfl)]; exact hE.pin hE.r0 hHid.low hHid.size hnm
  · show Rep _ _ _ _ _ (a.tmps.getD 2 undef)
    rw [rep_int (hA.rep 2 _ rfl)]; exact .base (.int _ _)
  · show Rep _ _ _ _ _ (a.tmps.getD 6 undef)
    rw [rep_val (hA.rep 6 _ rfl)]; exact .base (.val _)
  · show Rep _ _ _ _ _ (a.tmps.getD 7 undef)
    rw [(rep_map (hA.rep 7 _ rfl)).1]; exact .map 0 _ rfl
  · show Rep _ _ _ _ (.pin _ v16) (a.tmps.getD 16 undef)
    rw [rep_pin (hA.rep 16 _ rfl)]; exact hE.pin hE.r16 hHid.low hHid.size hnm
  · show Rep _ _ _ _ _ (a.tmps.getD 17 undef)
    rw [rep_int (hA.rep 17 _ rfl)]; exact .base (.int _ _)
  · show Rep _ _ _ _ _ (a.tmps.getD 18 undef)
    rw [rep_int (hA.rep 18 _ rfl)]; exact .base (.int _ _)
  · rcases hnm id hid with h | h
    · rw [h]; exact ⟨hb.1, hb.2.2⟩
    · exact ⟨Nat.le_trans hE.n1 h, hE.A _ h⟩
set_option maxHeartbeats 2000000 in
theorem gat_hit (hE : Env B w1 mb keys l v0 v16) {i k : Nat} {T : List Lo} {x : Lo} {c : Ct} {ρ : Nat → Nat} {a : Act} {w : World} {R : Act → World → Prop} (hi : i < l.length) (hll : l.length ≤ 1000000)
    (hk : T[k]? = some x) (hA : At B 0 (stM keys l v0 v16 p6 p i T c x.sb) ρ a w) (hmb : ρ 0 = mb) (h1 : w1.heap.size ≤ ρ 1) (hH : Hid w1 mb w T) (hsep : ∀ y ∈ T, y.sb ≠ ρ 1 ∧ y.qb ≠ ρ 1)
    (hR : ∀ a' ρ' w', At B 0 (stL keys l v0 v16 p6 p (i + 1) (T.set k (hitL x c))) ρ' a' w' → ρ' 0 = mb → Hid w1 mb w' (T.set k (hitL x c)) → R a' w') :
    curW B 0 Try.prog Q (.code (gAt [2,1,0,2,0,4,0])) [.seq (gAt [2,1,0,2,0,5]), .blk 1, .seq (gAt [2,1,0,3]), .hand R, .blk 0, .seq (gAt [3])] a w := by
  have hT := gat_take hE hk hA hmb h1 hH hsep
  refine at_run 400 [.d, .d, .d, .d, .d, .d, .r ((putK x.m.seqs c.seq).map encS), .d, .d, .d, .d, .d, .d, .d, .d, .d, .d, .d, .d, .d, .d, .d, .d, .d, .d, .d, .d, .d, .d, .d, .d, .d,
      .m (.tuple []) [.mp (mpT T), .cells (cellsK c), .cells (cellsM ⟨x.m.id, max x.m.seen c.seen, max x.m.looked c.looked, max x.m.broken c.broken, max x.m.last c.seq, []⟩ 3), .mp ((putK x.m.seqs c.seq).map encS), .row 2 [.agg [.ptr 2 0, .int .i64 c.seen], .agg [.ptr 2 1, .int .i64 c.looked], .agg [.ptr 2 2, .int .i64 c.broken], .agg [.ptr 2 3, .int .i64 c.seq]] 0,
        .cells [.ptr 2 0, .int .i64 c.seen], .cells [.ptr 2 1, .int .i64 c.looked], .cells [.ptr 2 2, .int .i64 c.broken], .cells [.ptr 2 3, .int .i64 c.seq]],
      .v (.int .i64 (((i : Nat) : Int) + 1)), .d] (.ex .normal) [.hand R, .blk 0, .seq (gAt [3])] [0, 2, 6, 7, 16, 17, 18] [0, 2, 3] (s' := stU keys l v0 v16 p6 p (i + 1) T (hitM x.m c))
    (ob := [∀ e ∈ mpT T, idsOf e = [], ∀ e ∈ (putK x.m.seqs c.seq).map encS, idsOf e = [], mpPut (x.m.seqs.map encS) c.seq (.bool true) = (putK x.m.seqs c.seq).map encS,
      FnM Try.prog 36 [.mp (mpT T), .cells (cellsK c), .cells (cellsM x.m 3), .mp ((putK x.m.seqs c.seq).map encS), .row 2 [.agg [.ptr 2 0, .int .i64 c.seen], .agg [.ptr 2 1, .int .i64 c.looked], .agg [.ptr 2 2, .int .i64 c.broken], .agg [.ptr 2 3, .int .i64 c.seq]] 0] [.slice 4 0 4 0] (.tuple [])
        [.mp (mpT T), .cells (cellsK c), .cells (cellsM ⟨x.m.id, max x.m.seen c.seen, max x.m.looked c.looked, max x.m.broken c.broken, max x.m.last c.seq, []⟩ 3), .mp ((putK x.m.seqs c.seq).map encS), .row 2 [.agg [.ptr 2 0, .int .i64 c.seen], .agg [.ptr 2 1, .int .i64 c.looked], .agg [.ptr 2 2, .int .i64 c.broken], .agg [.ptr 2 3, .int .i64 c.seq]] 0,
        .cells [.ptr 2 0, .int .i64 c.seen], .cells [.ptr 2 1, .int .i64 c.looked], .cells [.ptr 2 2, .int .i64 c.broken], .cells [.ptr 2 3, .int .i64 c.seq]],
      (.int .i64 (IntKind.wrap .i64 (((i : Nat) : Int) + 1)) : AV) = .int .i64 (((i : Nat) : Int) + 1)]) ⟨ids_mpT T, ids_encS _, put_map _ _, fd_grow, iW (w64 (by omega) (by omega)), trivial⟩ hE.e0 hT (fun a' ρ' w' hA' hN => ?_)
  have e0 : ρ' 0 = mb := hN.old 0 0 _ rfl rfl (show (1 : Nat) < 2 by decide)
  have e1 : ρ' 1 = x.sb := hN.old 1 2 _ rfl rfl (show (0 : Nat) < 2 by decide)
  have e2 : ρ' 2 = x.qb := hN.old 2 3 _ rfl rfl (show (1 : Nat) < 2 by decide)
  obtain ⟨q1, q2⟩ := gat_hide hE hk hA' e0 e1 e2 hH hsep h1 hN.size fun b hb n0 n1 n2 n3 => hN.frame b hb fun id hid => by
    match id with
    | 0 => exact n0.symm
    | 1 => exact n1.symm
    | 2 => exact n2.symm
    | id + 3 => exact n3.symm
  exact hR a' ρ' w' q1 e0 q2
end
section
variable {B : Bs} {w1 : World} {mb : Nat} {keys : List Int} {l : List Ct} {v0 v16 p6 : Value} {p : Int} {Q : EvX → St → Prop}
theorem Hid.keep {w w' : World} {T : List Lo} (hH : Hid w1 mb w T) (hmb : mb < w1.heap.size) (hs : w.heap.size ≤ w'.heap.size) (hfr : ∀ b, b < w.heap.size → b ≠ mb → w'.heap[b]? = w.heap[b]?) : Hid w1 mb w' T :=
  ⟨fun x hx => (hH.own x hx).keep (hfr _ (hH.own x hx).lt.1 (by have := (hH.hi x hx).1; omega)) (hfr _ (hH.own x hx).lt.2 (by have := (hH.hi x hx).2; omega)), hH.hi, hH.nd, fun b h1 h2 => (hfr b (Nat.lt_of_lt_of_le h1 hH.size) h2).trans (hH.low b h1 h2), Nat.le_trans hH.size hs⟩
abbrev st13 (p6 : Value) (p : Int) (T : List Lo) : St := stX .any 130 [(2, .int .i64 p), (6, .val p6), (7, .map 0)] [.mp (mpT T)]
/-- A new machine's blocks, named. -/
abbrev stN (keys : List Int) (l : List Ct) (v0 v16 p6 : Value) (p : Int) (i : Nat) (T : List Lo) (c : Ct) : St :=
  stX .any 130 [(0, .pin (.list (keys.map encU)) v0), (2, .int .i64 p), (6, .val p6), (7, .map 0), (9, .ptr 1 0), (10, .ptr 3 0), (16, .pin (.list (l.map encK)) v16), (17, .int .i64 (l.length : Int)), (18, .int .i64 ((i : Nat) : Int))] [.mp (mpT T), .cells (cellsK c), .mp [], .cells (cellsM (newM c) 2)]
theorem gat_new (hE : Env B w1 mb keys l v0 v16) {i : Nat} {T : List Lo} {c : Ct} {ρ : Nat → Nat} {a : Act} {w w0 : World} (hA : At B 0 (stN keys l v0 v16 p6 p i T c) ρ a w) (h0 : ρ 0 = mb) (hH : Hid w1 mb w0 T) (hn : ∀ j, j < 3 → w0.heap.size ≤ ρ (j + 1)) (hH' : Hid w1 mb w T) :
    At B 0 (stM keys l v0 v16 p6 p i T c (ρ 3)) ρ a w ∧ Hid w1 mb w (T ++ [⟨newM c, ρ 3, ρ 2⟩]) := by
  have hb := hE.mbd
  have hF0 := hA.fits
  have hn1 : w0.heap.size ≤ ρ 1 := hn 0 (by omega)
  have hn2 : w0.heap.size ≤ ρ 2 := hn 1 (by omega)
  have hn3 : w0.heap.size ≤ ρ 3 := hn 2 (by omega)
  have hs0 := hH.size
  have hown : Own w ⟨newM c, ρ 3, ρ 2⟩ := own_of (x := ⟨newM c, ρ 3, ρ 2⟩) (s := 3) (q := 2) (hF0.at_ 3 _ rfl) (hF0.at_ 2 _ rfl) rfl rfl
  have ne23 : ρ 3 ≠ ρ 2 := fun e => absurd (hF0.inj 3 2 (by simp [memL]) (by simp [memL]) e) (by decide)
  have hHid : Hid w1 mb w (T ++ [⟨newM c, ρ 3, ρ 2⟩]) := by
    refine ⟨fun y hy => ?_, fun y hy => ?_, ?_, hH'.low, hH'.size⟩
    · rcases List.mem_append.1 hy with hy | hy
      · exact hH'.own y hy
      · rw [List.mem_singleton.1 hy]; exact hown
    · rcases List.mem_append.1 hy with hy | hy
      · exact hH'.hi y hy
      · rw [List.mem_singleton.1 hy]; exact ⟨by show w1.heap.size ≤ ρ 3; omega, by show w1.heap.size ≤ ρ 2; omega⟩
    · obtain ⟨d1, d2, d3⟩ := List.nodup_append.1 hH.nd
      have hsb : ∀ b ∈ T.map Lo.sb, b < w0.heap.size := fun b hb => by
        obtain ⟨y, hy, rfl⟩ := List.mem_map.1 hb; exact (hH.own y hy).lt.1
      have hqb : ∀ b ∈ T.map Lo.qb, b < w0.heap.size := fun b hb => by
        obtain ⟨y, hy, rfl⟩ := List.mem_map.1 hb; exact (hH.own y hy).lt.2
      rw [List.map_append, List.map_append]
      refine List.nodup_append.2 ⟨List.nodup_append.2 ⟨d1, by simp, fun u hu v hv => ?_⟩, List.nodup_append.2 ⟨d2, by simp, fun u hu v hv => ?_⟩, fun u hu v hv => ?_⟩
      · have := hsb u hu; simp at hv; omega
      · have := hqb u hu; simp at hv; omega
      · rcases List.mem_append.1 hu with hu | hu <;> rcases List.mem_append.1 hv with hv | hv
        · exact d3 u hu v hv
        · have := hsb u hu; simp at hv; omega
        · have := hqb v hv; simp at hu; omega
        · simp at hu hv; omega
  refine ⟨?_, hHid⟩
  have two : ∀ {i : Nat}, i < 2 → i = 0 ∨ i = 1 := fun h => by omega
  have hnm : ∀ id, memL (stM keys l v0 v16 p6 p i T c (ρ 3)).mem id ≠ none → ρ id = mb ∨ w1.heap.size ≤ ρ id := fun id hid => by
    match id with
    | 0 => exact .inl h0
    | 1 => exact .inr (by omega)
    | id + 2 => exact absurd (by simp [memL]) hid
  have hF : Fits B.A (memL (stM keys l v0 v16 p6 p i T c (ρ 3)).mem) ρ w := by
    refine fits2 2 (fun id h => List.getElem?_eq_none (by simpa using h)) ?_ ?_
    · intro i j hi hj he
      rcases two hi with rfl | rfl <;> rcases two hj with rfl | rfl <;> first | rfl | (exfalso; omega)
    · intro id b hid hb'
      rcases two hid with rfl | rfl
      · cases hb'
        exact (map_of (hF0.at_ 0 _ rfl)).fits
      · cases hb'
        exact cells_keep (hF0.at_ 1 _ rfl) (cellsK_int c)
  refine at_view hE.e0 hA rfl (hA.asize.trans ((fillT_len _ _ _).trans (fillT_len _ _ _).symm)) (.refl _ _) hF (rep_fill (f := fun t => a.tmps.getD t undef) (fm_cons ?_ (fm_cons ?_ (fm_cons ?_ (fm_cons ?_ (fm_cons ?_ (fm_cons ?_ (fm_cons ?_ (fm_cons ?_ (fm_cons ?_ fm_nil)))))))))) fun id hid => ?_
  · show Rep _ _ _ _ (.pin _ v0) (a.tmps.getD 0 undef)
    rw [rep_pin (hA.rep 0 _ rfl)]; exact hE.pin hE.r0 hH'.low hH'.size hnm
  · show Rep _ _ _ _ _ (a.tmps.getD 2 undef)
    rw [rep_int (hA.rep 2 _ rfl)]; exact .base (.int _ _)
  · show Rep _ _ _ _ _ (a.tmps.getD 6 undef)
    rw [rep_val (hA.rep 6 _ rfl)]; exact .base (.val _)
  · show Rep _ _ _ _ _ (a.tmps.getD 7 undef)
    rw [(rep_map (hA.rep 7 _ rfl)).1]; exact .map 0 (mpT T) rfl
  · show Rep _ _ _ _ _ (a.tmps.getD 9 undef)
    rw [(rep_ptr (hA.rep 9 _ rfl)).1]; exact .ptr 1 0 (cellsK c) rfl
  · show Rep _ _ _ _ _ (a.tmps.getD 10 undef)
    rw [(rep_ptr (hA.rep 10 _ rfl)).1]; exact .base (.val _)
  · show Rep _ _ _ _ (.pin _ v16) (a.tmps.getD 16 undef)
    rw [rep_pin (hA.rep 16 _ rfl)]; exact hE.pin hE.r16 hH'.low hH'.size hnm
  · show Rep _ _ _ _ _ (a.tmps.getD 17 undef)
    rw [rep_int (hA.rep 17 _ rfl)]; exact .base (.int _ _)
  · show Rep _ _ _ _ _ (a.tmps.getD 18 undef)
    rw [rep_int (hA.rep 18 _ rfl)]; exact .base (.int _ _)
  · rcases hnm id hid with h | h
    · rw [h]; exact ⟨hb.1, hb.2.2⟩
    · exact ⟨Nat.le_trans hE.n1 h, hE.A _ h⟩
theorem elK {i : Nat} (h : i < l.length) : (l.map encK)[((i : Nat) : Int).toNat]? = some (encK (l.getD i ct0)) := elemN (d := ct0) (by omega) h
set_option maxHeartbeats 2000000 in
theorem gat_body (hE : Env B w1 mb keys l v0 v16) {i : Nat} {T : List Lo} {ρ : Nat → Nat} {a : Act} {w : World} {R : Act → World → Prop} (hi : i ≤ l.length) (hll : l.length ≤ 1000000)
    (hT : T.map Lo.m = tblG keys p (l.take i)) (hA : At B 0 (stL keys l v0 v16 p6 p i T) ρ a w) (h0 : ρ 0 = mb) (hH : Hid w1 mb w T)
    (hR : ∀ (T' : List Lo) a' ρ' w', i < l.length → T'.map Lo.m = tblG keys p (l.take (i + 1)) → At B 0 (stL keys l v0 v16 p6 p (i + 1) T') ρ' a' w' → ρ' 0 = mb → Hid w1 mb w' T' → R a' w')
    (hend : ∀ a' ρ' w', i = l.length → At B 0 (st13 p6 p T) ρ' a' w' → ρ' 0 = mb → Hid w1 mb w' T → curW B 0 Try.prog Q (.code (gAt [3, 0])) [.seq (gAt [4])] a' w') :
    curW B 0 Try.prog Q (.code (gAt [2,1,0,0])) [.hand R, .blk 0, .seq (gAt [3])] a w := by
  have hb := hE.mbd
  have keepH : ∀ {w' : World}, w.heap.size ≤ w'.heap.size → (∀ b, b < w.heap.size → (∀ id, memL (stL keys l v0 v16 p6 p i T).mem id ≠ none → ρ id ≠ b) → w'.heap[b]? = w.heap[b]?) → Hid w1 mb w' T := fun hs hf => hH.keep hb.2.1 hs fun b h1 h2 => hf b h1 fun id hid => by
    match id with
    | 0 => rw [h0]; exact h2.symm
    | id + 1 => exact absurd (by simp [memL]) hid
  by_cases q1 : ((i : Nat) : Int) < (l.length : Int)
  · have hlt : i < l.length := by omega
    by_cases q2 : (l.getD i ct0).promise = p
    · by_cases q3 : rightE keys (l.getD i ct0) = 0
      · rcases first_or T (l.getD i ct0).machine with hno | ⟨k, x, hx⟩
        · refine at_run 400 [.v (.bool true), .d, .e (encK (l.getD i ct0)), .d, .d, .d, .d, .d, .d, .v (.bool false), .d, .d, .d, .f true (.int .i64 (rightE keys (l.getD i ct0))), .v (.bool false), .d, .d, .d, .d, .d, .i 0, .d, .d, .d, .d, .d, .d, .d, .d, .d, .d, .d, .d]
            (.code (gAt [2,1,0,2,0,3,1,1])) [.seq (gAt [2,1,0,2,0,4]), .blk 1, .seq (gAt [2,1,0,3]), .hand R, .blk 0, .seq (gAt [3])] [0, 2, 6, 7, 9, 10, 16, 17, 18] [0, 1, 2, 3] (s' := stN keys l v0 v16 p6 p i T (l.getD i ct0))
            (ob := [∀ e ∈ mpT T, idsOf e = [], ∀ e ∈ ([] : List AV), idsOf e = [], _, 0 ≤ ((i : Nat) : Int), (l.map encK)[((i : Nat) : Int).toNat]? = some (encK (l.getD i ct0)), _, FnF Try.prog 17 true [.list (keys.map encU), encK (l.getD i ct0)] (.int .i64 (rightE keys (l.getD i ct0))), _, mpGet (mpT T) (l.getD i ct0).machine = none])
            ⟨ids_mpT T, fun e he => (by cases he), bT q1, by omega, elK hlt, nF q2, fd_right, nF q3, mp_none hno, trivial⟩ hE.e0 hA (fun a' ρ' w' hA' hN => ?_)
          have e0 : ρ' 0 = mb := (hN.old 0 0 _ rfl rfl (show (1 : Nat) < 2 by decide)).trans h0
          have hnew : ∀ j, j < 3 → w.heap.size ≤ ρ' (j + 1) := fun j hj => by
            rcases hN.new (j + 1) (by match j, hj with | 0, _ => simp [memL] | 1, _ => simp [memL] | 2, _ => simp [memL]) with ⟨h, _⟩ | h
            · exact absurd (by match j, hj with | 0, _ => rfl | 1, _ => rfl | 2, _ => rfl) h
            · exact h
          have hw1 : w.heap.size ≤ ρ' 1 := hnew 0 (by omega)
          have hH' := keepH hN.size hN.frame
          obtain ⟨hA2, hH2⟩ := gat_new hE hA' e0 hH hnew hH'
          refine at_run 400 [.d, .d, .d, .d, .r (mpT (T ++ [(⟨newM (l.getD i ct0), ρ' 3, ρ' 2⟩ : Lo)]))] (.code (gAt [2,1,0,2,0,4,0])) [.seq (gAt [2,1,0,2,0,5]), .blk 1, .seq (gAt [2,1,0,3]), .hand R, .blk 0, .seq (gAt [3])] [0, 2, 6, 7, 9, 10, 16, 17, 18] [0, 1]
            (s' := stM keys l v0 v16 p6 p i (T ++ [(⟨newM (l.getD i ct0), ρ' 3, ρ' 2⟩ : Lo)]) (l.getD i ct0) (ρ' 3))
            (ob := [∀ e ∈ mpT (T ++ [(⟨newM (l.getD i ct0), ρ' 3, ρ' 2⟩ : Lo)]), idsOf e = [], mpPut (mpT T) (l.getD i ct0).machine (.val (ptrV (ρ' 3))) = mpT (T ++ [(⟨newM (l.getD i ct0), ρ' 3, ρ' 2⟩ : Lo)])])
            ⟨ids_mpT _, mp_new (x := (⟨newM (l.getD i ct0), ρ' 3, ρ' 2⟩ : Lo)) hno, trivial⟩ hE.e0 hA2 (fun a2 ρ2 w2 hA3 hN2 => ?_)
          have f0 : ρ2 0 = mb := (hN2.old 0 0 _ rfl rfl (show (1 : Nat) < 2 by decide)).trans e0
          have f1 : ρ2 1 = ρ' 1 := hN2.old 1 1 _ rfl rfl (show (0 : Nat) < 2 by decide)
          have hF' := hA'.fits
          have ne12 : ρ' 1 ≠ ρ' 2 := fun e => absurd (hF'.inj 1 2 (by simp [memL]) (by simp [memL]) e) (by decide)
          have ne13 : ρ' 1 ≠ ρ' 3 := fun e => absurd (hF'.inj 1 3 (by simp [memL]) (by simp [memL]) e) (by decide)
          have hsep : ∀ y ∈ T ++ [(⟨newM (l.getD i ct0), ρ' 3, ρ' 2⟩ : Lo)], y.sb ≠ ρ' 1 ∧ y.qb ≠ ρ' 1 := fun y hy => by
            rcases List.mem_append.1 hy with hy | hy
            · have := (hH.own y hy).lt
              have := hw1
              omega
            · rw [List.mem_singleton.1 hy]; exact ⟨ne13.symm, ne12.symm⟩
          have hH3 : Hid w1 mb w2 (T ++ [(⟨newM (l.getD i ct0), ρ' 3, ρ' 2⟩ : Lo)]) := ⟨fun y hy => (hH2.own y hy).keep (hN2.frame _ (hH2.own y hy).lt.1 fun id hid => by
              have := hH2.hi y hy; have := hsep y hy
              match id with
              | 0 => rw [e0]; omega
              | 1 => exact (this.1).symm
              | id + 2 => exact absurd (by simp [memL]) hid) (hN2.frame _ (hH2.own y hy).lt.2 fun id hid => by
              have := hH2.hi y hy; have := hsep y hy
              match id with
              | 0 => rw [e0]; omega
              | 1 => exact (this.2).symm
              | id + 2 => exact absurd (by simp [memL]) hid), hH2.hi, hH2.nd, fun b h1 h2 => (hN2.frame b (Nat.lt_of_lt_of_le h1 hH2.size) fun id hid => by
              have := hw1
              have := hH.size
              match id with
              | 0 => rw [e0]; exact h2.symm
              | 1 => omega
              | id + 2 => exact absurd (by simp [memL]) hid).trans (hH2.low b h1 h2), Nat.le_trans hH2.size hN2.size⟩
          have hfst := first_new (T := T) (x := ⟨newM (l.getD i ct0), ρ' 3, ρ' 2⟩) (n := (l.getD i ct0).machine) rfl hno
          refine gat_hit hE hlt hll (x := ⟨newM (l.getD i ct0), ρ' 3, ρ' 2⟩) hfst.1 hA3 f0 (by rw [f1]; have := hw1; have := hH.size; omega) hH3 (by rw [f1]; exact hsep) fun a3 ρ3 w3 hA4 hm4 hH4 => ?_
          refine hR _ a3 ρ3 w3 hlt (tbl_hit hlt hT q2 q3 ?_) hA4 hm4 hH4
          rw [add_set hfst, List.map_append]
          exact add_new fun y hy => by
            obtain ⟨z, hz, rfl⟩ := List.mem_map.1 hy
            exact hno z hz
        · refine at_run 400 [.v (.bool true), .d, .e (encK (l.getD i ct0)), .d, .d, .d, .d, .d, .d, .v (.bool false), .d, .d, .d, .f true (.int .i64 (rightE keys (l.getD i ct0))), .v (.bool false), .d, .d, .d, .d, .d, .e (.val (ptrV x.sb)), .d, .d, .d, .d, .d, .d, .d, .d]
            (.code (gAt [2,1,0,2,0,4,0])) [.seq (gAt [2,1,0,2,0,5]), .blk 1, .seq (gAt [2,1,0,3]), .hand R, .blk 0, .seq (gAt [3])] [0, 2, 6, 7, 9, 10, 16, 17, 18] [0, 1] (s' := stM keys l v0 v16 p6 p i T (l.getD i ct0) x.sb)
            (ob := [∀ e ∈ mpT T, idsOf e = [], _, 0 ≤ ((i : Nat) : Int), (l.map encK)[((i : Nat) : Int).toNat]? = some (encK (l.getD i ct0)), _, FnF Try.prog 17 true [.list (keys.map encU), encK (l.getD i ct0)] (.int .i64 (rightE keys (l.getD i ct0))), _, mpGet (mpT T) (l.getD i ct0).machine = some (.val (ptrV x.sb))])
            ⟨ids_mpT T, bT q1, by omega, elK hlt, nF q2, fd_right, nF q3, mp_some hx, trivial⟩ hE.e0 hA (fun a' ρ' w' hA' hN => ?_)
          have e0 : ρ' 0 = mb := (hN.old 0 0 _ rfl rfl (show (1 : Nat) < 2 by decide)).trans h0
          have hn1 : w.heap.size ≤ ρ' 1 := by
            rcases hN.new 1 (by simp [memL]) with ⟨h, _⟩ | h
            · exact absurd rfl h
            · exact h
          have hH' := keepH hN.size hN.frame
          refine gat_hit hE hlt hll hx.1 hA' e0 (Nat.le_trans hH.size hn1) hH' (fun y hy => by have := (hH.own y hy).lt; omega) fun a3 ρ3 w3 hA4 hm4 hH4 => ?_
          exact hR _ a3 ρ3 w3 hlt (tbl_hit hlt hT q2 q3 (add_set hx)) hA4 hm4 hH4
      · refine at_run 400 [.v (.bool true), .d, .e (encK (l.getD i ct0)), .d, .d, .d, .d, .d, .d, .v (.bool false), .d, .d, .d, .f true (.int .i64 (rightE keys (l.getD i ct0))), .v (.bool true), .d, .d, .v (.int .i64 (((i : Nat) : Int) + 1)), .d]
          (.ex .normal) [.hand R, .blk 0, .seq (gAt [3])] [0, 2, 6, 7, 16, 17, 18] [0] (s' := stL keys l v0 v16 p6 p (i + 1) T)
          (ob := [∀ e ∈ mpT T, idsOf e = [], _, 0 ≤ ((i : Nat) : Int), (l.map encK)[((i : Nat) : Int).toNat]? = some (encK (l.getD i ct0)), _, FnF Try.prog 17 true [.list (keys.map encU), encK (l.getD i ct0)] (.int .i64 (rightE keys (l.getD i ct0))), _, (.int .i64 (IntKind.wrap .i64 (((i : Nat) : Int) + 1)) : AV) = .int .i64 (((i : Nat) : Int) + 1)])
          ⟨ids_mpT T, bT q1, by omega, elK hlt, nF q2, fd_right, nT q3, iW (w64 (by omega) (by omega)), trivial⟩ hE.e0 hA (fun a' ρ' w' hA' hN => ?_)
        exact hR T a' ρ' w' hlt (tbl_skip hlt hT (fun h => q3 h.2)) hA' ((hN.old 0 0 _ rfl rfl (show (1 : Nat) < 2 by decide)).trans h0) (keepH hN.size hN.frame)
    · refine at_run 400 [.v (.bool true), .d, .e (encK (l.getD i ct0)), .d, .d, .d, .d, .d, .d, .v (.bool true), .d, .d, .d, .d, .d, .d, .d, .v (.int .i64 (((i : Nat) : Int) + 1)), .d]
        (.ex .normal) [.hand R, .blk 0, .seq (gAt [3])] [0, 2, 6, 7, 16, 17, 18] [0] (s' := stL keys l v0 v16 p6 p (i + 1) T)
        (ob := [∀ e ∈ mpT T, idsOf e = [], _, 0 ≤ ((i : Nat) : Int), (l.map encK)[((i : Nat) : Int).toNat]? = some (encK (l.getD i ct0)), _, (.int .i64 (IntKind.wrap .i64 (((i : Nat) : Int) + 1)) : AV) = .int .i64 (((i : Nat) : Int) + 1)])
        ⟨ids_mpT T, bT q1, by omega, elK hlt, nT q2, iW (w64 (by omega) (by omega)), trivial⟩ hE.e0 hA (fun a' ρ' w' hA' hN => ?_)
      exact hR T a' ρ' w' hlt (tbl_skip hlt hT (fun h => q2 h.1)) hA' ((hN.old 0 0 _ rfl rfl (show (1 : Nat) < 2 by decide)).trans h0) (keepH hN.size hN.frame)
  · refine at_run 400 [.v (.bool false), .d] (.code (gAt [3, 0])) [.seq (gAt [4])] [2, 6, 7] [0] (s' := st13 p6 p T) (ob := [∀ e ∈ mpT T, idsOf e = [], _]) ⟨ids_mpT T, bF q1, trivial⟩ hE.e0 hA (fun a' ρ' w' hA' hN => ?_)
    exact hend a' ρ' w' (by omega) hA' ((hN.old 0 0 _ rfl rfl (show (1 : Nat) < 2 by decide)).trans h0) (keepH hN.size hN.frame)
end
theorem nodup_lt : ∀ (n : Nat) (l : List Nat), l.Nodup → (∀ i ∈ l, i < n) → l.length ≤ n
  | 0, [], _, _ => Nat.le_refl _
  | 0, x :: l, _, h => by have := h x (by simp); omega
  | n + 1, l, hn, h => by
    have h1 := nodup_lt n (l.erase n) (hn.erase n) (fun i hi => by
      obtain ⟨h2, h3⟩ := (List.Nodup.mem_erase_iff hn).1 hi
      have := h i h3; omega)
    by_cases hm : n ∈ l
    · rw [List.length_erase_of_mem hm] at h1; omega
    · rw [List.erase_of_not_mem hm] at h1; omega
structure Vis (n : Nat) (seen : Array Nat) : Prop where
  nodup : seen.toList.Nodup
  lt : ∀ i ∈ seen.toList, i < n
theorem Vis.step {n : Nat} {seen : Array Nat} (h : Vis n seen) {i : Nat} (hi : i < n) (hs : seen.contains i = false) : Vis n (seen.push i) := by
  have hn : i ∉ seen.toList := fun hm => by
    have : seen.contains i = true := Array.contains_iff_mem.2 (Array.mem_toList_iff.1 hm)
    rw [hs] at this; cases this
  refine ⟨?_, fun j hj => ?_⟩
  · rw [Array.toList_push]
    exact List.nodup_append.2 ⟨h.nodup, by simp, fun a ha b hb => by simp at hb; subst hb; exact fun e => hn (e ▸ ha)⟩
  · rw [Array.toList_push] at hj
    rcases List.mem_append.1 hj with hj | hj
    · exact h.lt j hj
    · simp at hj; omega
def m0 : Mc := ⟨0, 0, 0, 0, 0, []⟩
def sv (f : Mc → Int) (M : List Mc) (seen : Array Nat) : Int := sumI (seen.toList.map fun i => f (M.getD i m0))
theorem sv_push {f : Mc → Int} {M : List Mc} {seen : Array Nat} {i : Nat} {m : Mc} (h : M[i]? = some m) : sv f M (seen.push i) = sv f M seen + f m := by
  unfold sv
  rw [Array.toList_push, List.map_append, sumI_app, List.map_cons, List.map_nil, List.getD_eq_getElem?_getD, h]
  simp [sumI]
theorem sv_all {f : Mc → Int} {M : List Mc} {seen : Array Nat} (h : Vis M.length seen) (ha : ∀ i, i < M.length → i ∈ seen.toList) : sv f M seen = sumI (M.map f) := by
  have hp : seen.toList.Perm (List.range M.length) := (List.perm_ext_iff_of_nodup h.nodup List.nodup_range).2 fun i => ⟨fun hi => List.mem_range.2 (h.lt i hi), fun hi => ha i (List.mem_range.1 hi)⟩
  unfold sv
  rw [sumI_perm (hp.map _)]
  congr 1
  apply List.ext_getElem
  · simp
  · intro i h1 h2
    simp only [List.getElem_map, List.getElem_range]
    rw [List.getD_eq_getElem?_getD, List.getElem?_eq_getElem (by simpa using h2)]; rfl
theorem sv_bd {f : Mc → Int} {M : List Mc} {seen : Array Nat} {K : Int} (hK : 0 ≤ K) (h : Vis M.length seen) (hM : M.length ≤ 1000000) (hf : ∀ m ∈ M, -K ≤ f m ∧ f m ≤ K) (hk2 : K ≤ 1099511627776) : -(1000000 * 1099511627776) ≤ sv f M seen ∧ sv f M seen ≤ 1000000 * 1099511627776 := by
  have h1 := sumI_bd hK (seen.toList.map fun i => f (M.getD i m0)) (fun x hx => by
    obtain ⟨i, hi, rfl⟩ := List.mem_map.1 hx
    have := h.lt i hi
    rw [List.getD_eq_getElem?_getD, List.getElem?_eq_getElem this]
    exact hf _ (List.getElem_mem this))
  have h2 := nodup_lt _ _ h.nodup h.lt
  rw [List.length_map] at h1
  have h3 : (seen.toList.length : Int) * K ≤ 1000000 * 1099511627776 := Int.mul_le_mul (by omega) hk2 hK (by omega)
  unfold sv
  omega
theorem born_nd {ents : Array MapEntry} (hbn : ∀ (i : Nat) (e : MapEntry), ents[i]? = some e → e.born = i) : (ents.toList.map (·.born)).Nodup := by
  have e : ents.toList.map (·.born) = List.range ents.size := by
    apply List.ext_getElem
    · simp
    · intro i h1 h2
      simp only [List.getElem_map, List.getElem_range]
      have hi : i < ents.size := by simpa using h2
      exact hbn i _ (by rw [Array.getElem?_eq_getElem hi]; simp)
  rw [e]; exact List.nodup_range
theorem left_none {ents : Array MapEntry} {seen : Array Nat} (hbn : ∀ (i : Nat) (e : MapEntry), ents[i]? = some e → e.born = i) (h0 : (leftOf ents seen).size = 0) : ∀ i, i < ents.size → i ∈ seen.toList := fun i hi => by
  have hm : ents[i] ∉ leftOf ents seen := fun h => by
    have := Array.size_pos_of_mem h; omega
  unfold leftOf at hm
  rw [Array.mem_filter] at hm
  have hb : ents[i].born = i := hbn i _ (Array.getElem?_eq_getElem hi)
  have : seen.contains i = true := by
    cases hc : seen.contains i with
    | true => rfl
    | false => exact absurd ⟨Array.getElem_mem hi, by rw [hb, hc]; rfl⟩ hm
  exact Array.mem_toList_iff.2 (Array.contains_iff_mem.1 this)
section
variable {P : Program} {B : Bs} {ρ ρ' : Nat → Nat} {a a' : Act} {w w' : World} {s s' : St}
/-- A region whose first operation is taken by hand. -/
theorem at_first {id : Nat} {ops : Array Oper} {K : Exit → Act → World → Prop} {o : Oper} {v : Value} {n : Nat} {ss : List Sup} {ob : List Prop} (hE : Env0 B) (hn : ops.size = n + 1) (h0 : ops[0]? = some o) (hg : o.guard = none) (hx : (execOp a.eval o).run P w = .ok (.value v) w')
    (hA : At B 0 s ρ (a.put o.dst v) w') (hev : evSeq P ops.toList (ops.toList.drop 1) ss s = some (s', [], ob)) (hob : AllP ob) (k : ∀ a' ρ' w2, At B 0 s' ρ' a' w2 → Ext (memL s.mem) ρ w' (memL s'.mem) ρ' w2 → K .normal a' w2) :
    (Code.region id ops false).wpIn (FR B.ro) 0 P K a w := by
  refine at_region ?_
  rw [hn]
  refine at_hand h0 hg hx ?_
  have hl : (ops.toList.drop 1 ++ []).length = n := by simp [hn]
  have := at_ops (K := K) hE (ops.toList.drop 1) [] 1 ss s s' ob ρ (a.put o.dst v) w' (by simp) hev hob hA (fun a' ρ' w2 hA' hX => by simpa [wpOpsIn] using k a' ρ' w2 hA' hX)
  rw [hl] at this
  exact this
end
section
variable {B : Bs} {w1 : World} {mb : Nat} {keys : List Int} {l : List Ct} {v0 v16 p6 : Value} {p : Int} {Q : EvX → St → Prop}
abbrev six (p n s1 s2 s3 s4 : Int) : List AV := [.int .i64 p, .int .i64 n, .int .i64 s1, .int .i64 s2, .int .i64 s3, .int .i64 s4]
abbrev cV (p : Int) (M : List Mc) (seen : Array Nat) : List AV := six p (M.length : Int) (sv Mc.seen M seen) (sv Mc.looked M seen) (sv Mc.broken M seen) (sv misM M seen)
/-- In the second loop. -/
abbrev st2 (p6 : Value) (it : Nat) (cs : List AV) : St := stX .any 130 [(6, .val p6), (12, .ptr 0 0), (86, .val (ptrV it))] [.cells cs]
/-- A machine's blocks, read. -/
abbrev stR (p6 : Value) (it : Nat) (cs : List AV) (x : Mc) : St := stX .any 130 [(6, .val p6), (12, .ptr 0 0), (14, .ptr 1 0), (86, .val (ptrV it))] [.cells cs, .cells (cellsM x 2), .mp (x.seqs.map encS)]
abbrev stQ (p6 : Value) (it b : Nat) (cs : List AV) : St := stX .any 130 [(6, .val p6), (12, .ptr 0 0), (14, .val (ptrV b)), (86, .val (ptrV it))] [.cells cs]
theorem six_int (p n s1 s2 s3 s4 : Int) : ∀ x ∈ six p n s1 s2 s3 s4, ∃ k n, x = .int k n := fun x hx => by
  simp only [six, List.mem_cons, List.not_mem_nil, or_false] at hx
  rcases hx with rfl | rfl | rfl | rfl | rfl | rfl <;> exact ⟨_, _, rfl⟩
/-- What stays in the second loop. -/
structure Still (w1 : World) (mb ob it : Nat) (w : World) (T : List Lo) (ents : Array MapEntry) : Prop where
  hid : Hid w1 mb w T
  map_ : w.heap[mb]? = some (.map ents ents.size)
  hit : w1.heap.size ≤ it ∧ it < w.heap.size
  hob : w1.heap.size ≤ ob
  ne : it ≠ ob
  sep : ∀ y ∈ T, y.sb ≠ ob ∧ y.qb ≠ ob ∧ y.sb ≠ it ∧ y.qb ≠ it
theorem Still.keep {w w' : World} {T : List Lo} {ents : Array MapEntry} {ob it : Nat} (h : Still w1 mb ob it w T ents) (hmb : mb < w1.heap.size) (hs : w.heap.size ≤ w'.heap.size) (hfr : ∀ b, b < w.heap.size → b ≠ ob → b ≠ it → w'.heap[b]? = w.heap[b]?) : Still w1 mb ob it w' T ents := by
  have hi := h.hit
  have ho := h.hob
  have hsz := h.hid.size
  refine ⟨⟨fun x hx => ?_, h.hid.hi, h.hid.nd, fun b h1 h2 => (hfr b (by omega) (by omega) (by omega)).trans (h.hid.low b h1 h2), Nat.le_trans hsz hs⟩, (hfr mb (by omega) (by omega) (by omega)).trans h.map_, ⟨hi.1, by omega⟩, h.hob, h.ne, h.sep⟩
  have hl := (h.hid.own x hx).lt
  have hq := h.sep x hx
  exact (h.hid.own x hx).keep (hfr _ hl.1 hq.1 hq.2.2.1) (hfr _ hl.2 hq.2.1 hq.2.2.2)
end
section
variable {B : Bs} {w1 : World} {mb : Nat} {keys : List Int} {l : List Ct} {v0 v16 p6 : Value} {p : Int} {Q : EvX → St → Prop}
def ρS (o s q : Nat) : Nat → Nat
  | 0 => o
  | 1 => s
  | _ => q
abbrev SB : Int := 1000000 * 1099511627776
theorem gat_sum (hE : Env B w1 mb keys l v0 v16) {it ob k : Nat} {T : List Lo} {x : Lo} {ents : Array MapEntry} {ρ : Nat → Nat} {a : Act} {w : World} {R : Act → World → Prop} {n s1 s2 s3 s4 : Int} (hk : T[k]? = some x) (hS : Still w1 mb ob it w T ents) (h0 : ρ 0 = ob)
    (hA : At B 0 (stQ p6 it x.sb (six p n s1 s2 s3 s4)) ρ a w) (b1 : -SB ≤ s1 ∧ s1 ≤ SB) (b2 : -SB ≤ s2 ∧ s2 ≤ SB) (b3 : -SB ≤ s3 ∧ s3 ≤ SB) (b4 : -SB ≤ s4 ∧ s4 ≤ SB) (hx : BndM 1000000 x.m)
    (hR : ∀ a' ρ' w', At B 0 (st2 p6 it (six p n (s1 + x.m.seen) (s2 + x.m.looked) (s3 + x.m.broken) (s4 + misM x.m))) ρ' a' w' → ρ' 0 = ob → Still w1 mb ob it w' T ents → w'.heap[it]? = w.heap[it]? → R a' w') :
    curW B 0 Try.prog Q (.code (gAt [4,1,0,2,1])) [.blk 3, .hand R, .blk 2, .seq (gAt [5])] a w := by
  have hm := List.mem_of_getElem? hk
  have hO := hS.hid.own x hm
  have hhi := hS.hid.hi x hm
  have n3 := (nd_split hS.hid.nd).2.2 x hm x hm
  have hs := hS.sep x hm
  have hb := hE.mbd
  have hob := hS.hob
  have hF0 := hA.fits
  have three : ∀ {i : Nat}, i < 3 → i = 0 ∨ i = 1 ∨ i = 2 := fun h => by omega
  have hT : At B 0 (stR p6 it (six p n s1 s2 s3 s4) x.m) (ρS ob x.sb x.qb) a w := by
    have hF : Fits B.A (memL (stR p6 it (six p n s1 s2 s3 s4) x.m).mem) (ρS ob x.sb x.qb) w := by
      refine fits2 3 (fun id h => List.getElem?_eq_none (by simpa using h)) ?_ ?_
      · intro i j hi hj he
        rcases three hi with rfl | rfl | rfl <;> rcases three hj with rfl | rfl | rfl <;> first | rfl | (exfalso; simp only [ρS] at he; omega)
      · intro id b hid hb'
        rcases three hid with rfl | rfl | rfl
        · cases hb'
          have := hF0.at_ 0 _ rfl
          rw [h0] at this
          exact cells_keep this (six_int _ _ _ _ _ _)
        · cases hb'
          exact (hO.fits (q := 2) rfl rfl).1
        · cases hb'
          exact (hO.fits (q := 2) rfl rfl).2
    refine at_view hE.e0 hA rfl (hA.asize.trans ((fillT_len _ _ _).trans (fillT_len _ _ _).symm)) (.refl _ _) hF (rep_fill (f := fun t => a.tmps.getD t undef) (fm_cons ?_ (fm_cons ?_ (fm_cons ?_ (fm_cons ?_ fm_nil))))) fun id hid => ?_
    · show Rep _ _ _ _ _ (a.tmps.getD 6 undef)
      rw [rep_val (hA.rep 6 _ rfl)]; exact .base (.val _)
    · show Rep _ _ _ _ _ (a.tmps.getD 12 undef)
      rw [(rep_ptr (hA.rep 12 _ rfl)).1, h0]; exact .ptr 0 0 _ rfl
    · show Rep _ _ _ _ _ (a.tmps.getD 14 undef)
      rw [rep_val (hA.rep 14 _ rfl)]; exact .ptr 1 0 _ rfl
    · show Rep _ _ _ _ _ (a.tmps.getD 86 undef)
      rw [rep_val (hA.rep 86 _ rfl)]; exact .base (.val _)
    · have : w1.heap.size ≤ ρS ob x.sb x.qb id := by
        match id with
        | 0 => exact hob
        | 1 => exact hhi.1
        | id + 2 => exact hhi.2
      exact ⟨Nat.le_trans hE.n1 this, hE.A _ this⟩
  obtain ⟨c1, c2, c3, c4, c5⟩ := hx
  have SBv : SB = 1000000 * 1099511627776 := rfl
  refine at_run 400 [.d, .d, .d, .d, .d, .d, .v (.int .i64 (s1 + x.m.seen)), .d, .d, .d, .d, .d, .d, .d, .d, .v (.int .i64 (s2 + x.m.looked)), .d, .d, .d, .d, .d, .d, .d, .d, .v (.int .i64 (s3 + x.m.broken)), .d, .d,
      .d, .d, .d, .d, .d, .d, .d, .d, .d, .d, .v (.int .i64 (x.m.seqs.length : Int)), .v (.int .i64 (misM x.m)), .v (.int .i64 (s4 + misM x.m)), .d, .d] (.ex .normal) [.hand R, .blk 2, .seq (gAt [5])] [6, 12, 86] [0, 1, 2]
    (s' := stX .any 130 [(6, .val p6), (12, .ptr 0 0), (86, .val (ptrV it))] [.cells (six p n (s1 + x.m.seen) (s2 + x.m.looked) (s3 + x.m.broken) (s4 + misM x.m)), .cells (cellsM x.m 2), .mp (x.m.seqs.map encS)])
    (ob := [∀ e ∈ x.m.seqs.map encS, idsOf e = [], (.int .i64 (IntKind.wrap .i64 (s1 + x.m.seen)) : AV) = .int .i64 (s1 + x.m.seen), (.int .i64 (IntKind.wrap .i64 (s2 + x.m.looked)) : AV) = .int .i64 (s2 + x.m.looked), (.int .i64 (IntKind.wrap .i64 (s3 + x.m.broken)) : AV) = .int .i64 (s3 + x.m.broken),
      (.int .i64 (((x.m.seqs.map encS).length : Nat) : Int) : AV) = .int .i64 (x.m.seqs.length : Int), (.int .i64 (IntKind.wrap .i64 (x.m.last - (x.m.seqs.length : Int))) : AV) = .int .i64 (misM x.m), (.int .i64 (IntKind.wrap .i64 (s4 + misM x.m)) : AV) = .int .i64 (s4 + misM x.m)])
    ⟨ids_encS _, iW (w64 (by omega) (by omega)), iW (w64 (by omega) (by omega)), iW (w64 (by omega) (by omega)), by simp, iW (w64 (by omega) (by omega)), iW (w64 (by unfold misM; omega) (by unfold misM; omega)), trivial⟩ hE.e0 hT (fun a' ρ' w' hA' hN => ?_)
  have e0 : ρ' 0 = ob := hN.old 0 0 _ rfl rfl (show (0 : Nat) < 2 by decide)
  have e1 : ρ' 1 = x.sb := hN.old 1 1 _ rfl rfl (show (0 : Nat) < 2 by decide)
  have e2 : ρ' 2 = x.qb := hN.old 2 2 _ rfl rfl (show (1 : Nat) < 2 by decide)
  have hF' := hA'.fits
  have hown : Own w' x := own_of (s := 1) (q := 2) (hF'.at_ 1 _ rfl) (hF'.at_ 2 _ rfl) e1 e2
  obtain ⟨d1, d2, d3⟩ := nd_split hS.hid.nd
  have hfr : ∀ b, b < w.heap.size → b ≠ ob → b ≠ x.sb → b ≠ x.qb → w'.heap[b]? = w.heap[b]? := fun b h1 h2 h3 h4 => hN.frame b h1 fun id hid => by
    match id with
    | 0 => exact h2.symm
    | 1 => exact h3.symm
    | id + 2 => exact h4.symm
  have hit := hS.hit
  have hsz := hS.hid.size
  have hne := hS.ne
  have hS' : Still w1 mb ob it w' T ents := by
    refine ⟨⟨fun y hy => ?_, hS.hid.hi, hS.hid.nd, fun b h1 h2 => (hfr b (by omega) (by omega) (by omega) (by omega)).trans (hS.hid.low b h1 h2), Nat.le_trans hsz hN.size⟩, (hfr mb (by omega) (by omega) (by omega) (by omega)).trans hS.map_, ⟨hit.1, Nat.lt_of_lt_of_le hit.2 hN.size⟩, hob, hne, hS.sep⟩
    obtain ⟨j, hj⟩ := List.mem_iff_getElem?.1 hy
    by_cases e : j = k
    · subst e
      rw [hk] at hj; cases hj
      exact hown
    · have hl := (hS.hid.own y hy).lt
      have hq := hS.sep y hy
      exact (hS.hid.own y hy).keep (hfr _ hl.1 hq.1 (fun h => e (d1 j k y x hj hk h)) (d3 y hy x hm)) (hfr _ hl.2 hq.2.1 (fun h => d3 x hm y hy h.symm) (fun h => e (d2 j k y x hj hk h)))
  refine hR a' ρ' w' ?_ e0 hS' (hfr it hit.2 hne (fun h => hs.2.2.1 h.symm) (fun h => hs.2.2.2 h.symm))
  have hF2 : Fits B.A (memL (st2 p6 it (six p n (s1 + x.m.seen) (s2 + x.m.looked) (s3 + x.m.broken) (s4 + misM x.m))).mem) ρ' w' := by
    refine fits2 1 (fun id h => List.getElem?_eq_none (by simpa using h)) (fun i j hi hj _ => by omega) ?_
    intro id b hid hb'
    obtain rfl : id = 0 := by omega
    cases hb'
    exact cells_keep (hF'.at_ 0 _ rfl) (six_int _ _ _ _ _ _)
  refine at_view hE.e0 hA' rfl (hA'.asize.trans ((fillT_len _ _ _).trans (fillT_len _ _ _).symm)) (.refl _ _) hF2 (rep_fill (f := fun t => a'.tmps.getD t undef) (fm_cons ?_ (fm_cons ?_ (fm_cons ?_ fm_nil)))) fun id hid => ?_
  · show Rep _ _ _ _ _ (a'.tmps.getD 6 undef)
    rw [rep_val (hA'.rep 6 _ rfl)]; exact .base (.val _)
  · show Rep _ _ _ _ _ (a'.tmps.getD 12 undef)
    rw [(rep_ptr (hA'.rep 12 _ rfl)).1]; exact .ptr 0 0 _ rfl
  · show Rep _ _ _ _ _ (a'.tmps.getD 86 undef)
    rw [rep_val (hA'.rep 86 _ rfl)]; exact .base (.val _)
  · match id with
    | 0 => rw [e0]; exact ⟨Nat.le_trans hE.n1 hob, hE.A _ hob⟩
    | id + 1 => exact absurd (by simp [memL]) hid
end
section
variable {P : Program} {B : Bs} {ρ ρ' : Nat → Nat} {a a' : Act} {w w' : World} {s s' : St}
theorem At.put (hA : At B 0 s ρ a w) (d : Nat) {x : AV} {v : Value} (h : Rep B.A (memL s.mem) ρ w x v) : At B 0 (s.put (some d) x) ρ (a.put (some d) v) w := by
  obtain ⟨ds, hR, hG⟩ := hA.ds
  exact ⟨hA.ro, hA.up, ds, hR.put (some d) h, hG⟩
end
section
variable {B : Bs} {w1 : World} {mb : Nat} {keys : List Int} {l : List Ct} {v0 v16 p6 : Value} {p : Int} {Q : EvX → St → Prop}
theorem op15 : ∃ o, (regOps (gAt [4,1,0,0,0]))[0]? = some o ∧ o.op = .next (.tmp 86) false ∧ o.dst = some 87 ∧ o.guard = none := by
  have h : ((regOps (gAt [4,1,0,0,0]))[0]?).map (fun o => (o.op, o.dst, o.guard)) = some (.next (.tmp 86) false, some 87, none) := by kernel_rfl
  obtain ⟨o, h1, h2⟩ := Option.map_eq_some_iff.1 h
  simp only [Prod.mk.injEq] at h2
  exact ⟨o, h1, h2⟩
theorem op16 : ∃ o, (regOps (gAt [4,1,0,2,0,0]))[0]? = some o ∧ o.op = .entry (.tmp 86) ∧ o.dst = some 89 ∧ o.guard = none := by
  have h : ((regOps (gAt [4,1,0,2,0,0]))[0]?).map (fun o => (o.op, o.dst, o.guard)) = some (.entry (.tmp 86), some 89, none) := by kernel_rfl
  obtain ⟨o, h1, h2⟩ := Option.map_eq_some_iff.1 h
  simp only [Prod.mk.injEq] at h2
  exact ⟨o, h1, h2⟩
theorem c15 : gAt [4,1,0,0,0] = .region 15 (regOps (gAt [4,1,0,0,0])) false := by kernel_rfl
theorem c16 : gAt [4,1,0,2,0,0] = .region 16 (regOps (gAt [4,1,0,2,0,0])) false := by kernel_rfl
theorem cBody : gAt [4,1,0,0] = .seq (gAt [4,1,0,0,0]) (gAt [4,1,0,1]) := by kernel_rfl
/-- The entries of the table. -/
structure Ents (T : List Lo) (ents : Array MapEntry) : Prop where
  size : ents.size = T.length
  at_ : ∀ (i : Nat) (x : Lo) (e : MapEntry), T[i]? = some x → ents[i]? = some e → e.key = .int .i64 x.m.id ∧ e.born = i ∧ e.val = ptrV x.sb
theorem Ents.get {T : List Lo} {ents : Array MapEntry} (h : Ents T ents) {e : MapEntry} (he : e ∈ ents.toList) : ∃ x, T[e.born]? = some x ∧ e.val = ptrV x.sb ∧ e.born < T.length := by
  obtain ⟨i, hi, rfl⟩ := List.getElem_of_mem he
  have hi' : i < ents.size := by simpa using hi
  have hs := h.size
  have hT : T[i]? = some (T[i]'(by omega)) := List.getElem?_eq_getElem _
  have := h.at_ i _ _ hT (Array.getElem?_eq_getElem hi')
  rw [Array.getElem_toList]
  rw [this.2.1]
  exact ⟨_, hT, this.2.2, by omega⟩
theorem Ents.born {T : List Lo} {ents : Array MapEntry} (h : Ents T ents) : ∀ (i : Nat) (e : MapEntry), ents[i]? = some e → e.born = i := fun i e hi => by
  have hi' := (Array.getElem?_eq_some_iff.1 hi).1
  have hs := h.size
  exact (h.at_ i _ e (List.getElem?_eq_getElem (show i < T.length by omega)) hi).2.1
abbrev stE (p6 : Value) (cs : List AV) : St := stX .any 130 [(6, .val p6), (12, .ptr 0 0)] [.cells cs]
theorem dm_bd {T : List Lo} (hb : ∀ m ∈ T.map Lo.m, BndM 1000000 m) {seen : Array Nat} (hv : Vis T.length seen) (hT : T.length ≤ 1000000) : (-SB ≤ sv Mc.seen (T.map Lo.m) seen ∧ sv Mc.seen (T.map Lo.m) seen ≤ SB) ∧ (-SB ≤ sv Mc.looked (T.map Lo.m) seen ∧ sv Mc.looked (T.map Lo.m) seen ≤ SB) ∧ (-SB ≤ sv Mc.broken (T.map Lo.m) seen ∧ sv Mc.broken (T.map Lo.m) seen ≤ SB) ∧ -SB ≤ sv misM (T.map Lo.m) seen ∧ sv misM (T.map Lo.m) seen ≤ SB := by
  have hv' : Vis (T.map Lo.m).length seen := by rw [List.length_map]; exact hv
  have hT' : (T.map Lo.m).length ≤ 1000000 := by rw [List.length_map]; exact hT
  refine ⟨sv_bd (K := 1099511627776) (by decide) hv' hT' (fun m hm => ?_) (by decide), sv_bd (K := 1099511627776) (by decide) hv' hT' (fun m hm => ?_) (by decide), sv_bd (K := 1099511627776) (by decide) hv' hT' (fun m hm => ?_) (by decide), sv_bd (K := 1099511627776) (by decide) hv' hT' (fun m hm => ?_) (by decide)⟩
  all_goals
    obtain ⟨c1, c2, c3, c4, c5⟩ := hb m hm
    first
      | omega
      | (unfold misM; omega)
set_option maxHeartbeats 2000000 in
theorem gat_round (hE : Env B w1 mb keys l v0 v16) {it ob c0 : Nat} {T : List Lo} {ents : Array MapEntry} {seen : Array Nat} {ρ : Nat → Nat} {a : Act} {w : World} {R : Act → World → Prop} (hS : Still w1 mb ob it w T ents) (hEn : Ents T ents)
    (hit : w.heap[it]? = some (.mapIter (some mb) T.length seen c0)) (hc0 : T.length ≤ c0) (hv : Vis T.length seen) (hA : At B 0 (st2 p6 it (cV p (T.map Lo.m) seen)) ρ a w) (h0 : ρ 0 = ob) (hbd : ∀ m ∈ T.map Lo.m, BndM 1000000 m) (hTl : T.length ≤ 1000000)
    (hR : ∀ e ∈ (leftOf ents seen).toList, ∀ a' ρ' w', Still w1 mb ob it w' T ents → w'.heap[it]? = some (.mapIter (some mb) T.length (seen.push e.born) ents.size) → Vis T.length (seen.push e.born) → At B 0 (st2 p6 it (cV p (T.map Lo.m) (seen.push e.born))) ρ' a' w' → ρ' 0 = ob → R a' w')
    (hend : ∀ a' ρ' w', (leftOf ents seen).size = 0 → Still w1 mb ob it w' T ents → At B 0 (stE p6 (cV p (T.map Lo.m) seen)) ρ' a' w' → ρ' 0 = ob → curW B 0 Try.prog Q (.code (gAt [5, 0])) [.seq (gAt [6])] a' w') :
    curW B 0 Try.prog Q (.code (gAt [4,1,0,0])) [.hand R, .blk 2, .seq (gAt [5])] a w := by
  have hb := hE.mbd
  have hiw := hS.hit
  have hsz := hS.hid.size
  have hne := hS.ne
  have hob := hS.hob
  have hF0 := hA.fits
  show (gAt [4,1,0,0]).wpIn _ _ _ _ _ _
  rw [cBody]
  refine wpIn_seq ?_
  rw [c15]
  obtain ⟨o, ho, hop, hdst, hg⟩ := op15
  have h86 : a.eval (.tmp 86) = ptrV it := rep_val (hA.rep 86 _ rfl)
  have hold : ∀ x ∈ ents.toList, x.born < T.length := fun x hx => let ⟨_, _, _, h⟩ := hEn.get hx; h
  have hob_lt : ob < w.heap.size := h0 ▸ (hF0.at_ 0 _ rfl).lt
  rcases run_next_at (P := Try.prog) w o.type it mb T.length c0 seen ents ents.size hit hS.map_ hold hc0 with ⟨hz, hrun⟩ | ⟨e, hel, wd, hwd, hrun⟩
  · refine at_first (ops := regOps (gAt [4,1,0,0,0])) (n := 1) (ss := [.d]) (ob := []) (s := (st2 p6 it (cV p (T.map Lo.m) seen)).put (some 87) (.tuple [.bool false])) (s' := stX .any 130 [(6, .val p6), (12, .ptr 0 0), (86, .val (ptrV it)), (87, .tuple [.bool false]), (88, .bool false)] [.cells (cV p (T.map Lo.m) seen)]) hE.e0 (by kernel_rfl) ho hg
      (exec_v (s := Instr.next (a.eval (.tmp 86)) false o.type) (by unfold execOp; rw [hop]) (by rw [h86]; exact hrun)) (by rw [hdst]; exact hA.put 87 (.base (.tuple _ _ rfl fun i c hc => by
        match i with
        | 0 => simp at hc; subst hc; exact .bool _
        | i + 1 => simp at hc))) (by kernel_rfl) trivial fun a' ρ' w2 hA' hX => ?_
    show curW B 0 Try.prog Q (.code (gAt [4,1,0,1])) [.hand R, .blk 2, .seq (gAt [5])] a' w2
    have hw2 : Still w1 mb ob it w2 T ents := hS.keep hb.2.1 hX.size fun b h1 h2 h3 => hX.frame b h1 fun id hid => by
      match id with
      | 0 => rw [h0]; exact h2.symm
      | id + 1 => exact absurd (by simp [St.put, memL]) hid
    have f0 : ρ' 0 = ob := ((hX.preC 1) 0 (by decide) (.cells (cV p (T.map Lo.m) seen)) (show (0 : Nat) < 2 by decide) rfl).2.trans h0
    refine at_run 400 [.d] (.code (gAt [5, 0])) [.seq (gAt [6])] [6, 12] [0] (s' := stE p6 (cV p (T.map Lo.m) seen)) (ob := []) trivial hE.e0 hA' (fun a3 ρ3 w3 hA3 hN => ?_)
    exact hend a3 ρ3 w3 hz (hw2.keep hb.2.1 hN.size fun b h1 h2 h3 => hN.frame b h1 fun id hid => by
      match id with
      | 0 => rw [f0]; exact h2.symm
      | id + 1 => exact absurd (by simp [memL]) hid) hA3 ((hN.old 0 0 _ rfl rfl (show (0 : Nat) < 2 by decide)).trans f0)
  · obtain ⟨hee, hsee⟩ := mem_left hel
    obtain ⟨x, hx, hval, hlt⟩ := hEn.get hee
    have hdh : wd.heap = w.heap := by rcases hwd with rfl | rfl <;> rfl
    obtain ⟨wn, hwn⟩ : ∃ wn, wn = setBlock wd it (.mapIter (some mb) T.length (seen.push e.born) ents.size) := ⟨_, rfl⟩
    rw [← hwn] at hrun
    have hnh : wn.heap = w.heap.setIfInBounds it (.mapIter (some mb) T.length (seen.push e.born) ents.size) := by rw [hwn, ← hdh]; rfl
    have hni : wn.heap[it]? = some (.mapIter (some mb) T.length (seen.push e.born) ents.size) := by rw [hnh]; simp [hiw.2]
    have hno : ∀ b, b ≠ it → wn.heap[b]? = w.heap[b]? := fun b hb => by rw [hnh]; simp [Ne.symm hb]
    have hns : wn.heap.size = w.heap.size := by rw [hnh]; simp
    have hSn : Still w1 mb ob it wn T ents := hS.keep hb.2.1 (by omega) fun b _ _ h3 => hno b h3
    have hmn := hSn.map_
    have hAn : At B 0 (st2 p6 it (cV p (T.map Lo.m) seen)) ρ a wn := by
      have hF : Fits B.A (memL (st2 p6 it (cV p (T.map Lo.m) seen)).mem) ρ wn := by
        refine fits2 1 (fun id h => List.getElem?_eq_none (by simpa using h)) (fun i j hi hj _ => by omega) ?_
        intro id b hid hb'
        obtain rfl : id = 0 := by omega
        cases hb'
        have h1 := hF0.at_ 0 _ rfl
        rw [h0] at h1 ⊢
        obtain ⟨vs, t, q1, q2, q3⟩ := h1
        refine cells_keep (A := B.A) (m := memL (st2 p6 it (cV p (T.map Lo.m) seen)).mem) (ρ := ρ) ⟨vs, t, (hno ob hne.symm).trans q1, q2, fun i c hi => ?_⟩ (six_int _ _ _ _ _ _)
        obtain ⟨k, n, rfl⟩ := six_int _ _ _ _ _ _ c (List.mem_of_getElem? hi)
        rw [rep_int (q3 i _ hi)]; exact .base (.int _ _)
      refine at_view hE.e0 hA rfl hA.asize ⟨?_, ?_, ?_, by omega, fun b hb1 => hno b (by have := hE.n1; omega), fun D y hD => hno D (fun e' => by rw [e', hit] at hD; cases hD), fun q r hr => hno q (fun e' => by rw [e', hit] at hr; cases hr)⟩ hF (rep_fill (f := fun t => a.tmps.getD t undef) (fm_cons ?_ (fm_cons ?_ (fm_cons ?_ fm_nil)))) fun id hid => ?_
      · rw [hwn]; rcases hwd with rfl | rfl <;> rfl
      · rw [hwn]; rcases hwd with rfl | rfl <;> rfl
      · rw [hwn]; rcases hwd with rfl | rfl <;> rfl
      · show Rep _ _ _ _ _ (a.tmps.getD 6 undef)
        rw [rep_val (hA.rep 6 _ rfl)]; exact .base (.val _)
      · show Rep _ _ _ _ _ (a.tmps.getD 12 undef)
        rw [(rep_ptr (hA.rep 12 _ rfl)).1]; exact .ptr 0 0 _ rfl
      · show Rep _ _ _ _ _ (a.tmps.getD 86 undef)
        rw [rep_val (hA.rep 86 _ rfl)]; exact .base (.val _)
      · match id with
        | 0 => rw [h0]; exact ⟨Nat.le_trans hE.n1 hob, hE.A _ hob⟩
        | id + 1 => exact absurd (by simp [memL]) hid
    refine at_first (ops := regOps (gAt [4,1,0,0,0])) (n := 1) (ss := [.d]) (ob := []) (s := (st2 p6 it (cV p (T.map Lo.m) seen)).put (some 87) (.tuple [.bool true, .any, .any])) (s' := stX .any 130 [(6, .val p6), (12, .ptr 0 0), (86, .val (ptrV it)), (87, .tuple [.bool true, .any, .any]), (88, .bool true)] [.cells (cV p (T.map Lo.m) seen)]) hE.e0 (by kernel_rfl) ho hg
      (exec_v (s := Instr.next (a.eval (.tmp 86)) false o.type) (by unfold execOp; rw [hop]) (by rw [h86]; exact hrun)) (by rw [hdst]; exact hAn.put 87 (.base (.tuple _ _ rfl fun i c hc => by
        match i with
        | 0 => simp at hc; subst hc; exact .bool _
        | 1 => simp at hc; subst hc; exact .any _
        | 2 => simp at hc; subst hc; exact .any _
        | i + 3 => simp at hc))) (by kernel_rfl) trivial fun a' ρ' w2 hA' hX => ?_
    show curW B 0 Try.prog Q (.code (gAt [4,1,0,1])) [.hand R, .blk 2, .seq (gAt [5])] a' w2
    have f0 : ρ' 0 = ob := ((hX.preC 1) 0 (by decide) (.cells (cV p (T.map Lo.m) seen)) (show (0 : Nat) < 2 by decide) rfl).2.trans h0
    have hfr2 : ∀ b, b < wn.heap.size → b ≠ ob → w2.heap[b]? = wn.heap[b]? := fun b h1 h2 => hX.frame b h1 fun id hid => by
      match id with
      | 0 => rw [h0]; exact h2.symm
      | id + 1 => exact absurd (by simp [St.put, memL]) hid
    have hS2 : Still w1 mb ob it w2 T ents := hSn.keep hb.2.1 hX.size fun b h1 h2 _ => hfr2 b h1 h2
    have hi2 : w2.heap[it]? = _ := (hfr2 it (by omega) hne).trans hni
    refine at_run 400 [.d] (.code (gAt [4,1,0,2,0,0])) [.seq (gAt [4,1,0,2,1]), .blk 3, .hand R, .blk 2, .seq (gAt [5])] [6, 12, 86] [0] (s' := st2 p6 it (cV p (T.map Lo.m) seen)) (ob := []) trivial hE.e0 hA' (fun a3 ρ3 w3 hA3 hN => ?_)
    have g0 : ρ3 0 = ob := (hN.old 0 0 _ rfl rfl (show (0 : Nat) < 2 by decide)).trans f0
    have hfr3 : ∀ b, b < w2.heap.size → b ≠ ob → w3.heap[b]? = w2.heap[b]? := fun b h1 h2 => hN.frame b h1 fun id hid => by
      match id with
      | 0 => rw [f0]; exact h2.symm
      | id + 1 => exact absurd (by simp [memL]) hid
    have hS3 : Still w1 mb ob it w3 T ents := hS2.keep hb.2.1 hN.size fun b h1 h2 _ => hfr3 b h1 h2
    have hi3 : w3.heap[it]? = _ := (hfr3 it hS2.hit.2 hne).trans hi2
    show (gAt [4,1,0,2,0,0]).wpIn _ _ _ _ _ _
    rw [c16]
    obtain ⟨o2, ho2, hop2, hdst2, hg2⟩ := op16
    have h86' : a3.eval (.tmp 86) = ptrV it := rep_val (hA3.rep 86 _ rfl)
    have hent := run_entry_at (P := Try.prog) w3 it mb T.length seen ents ents.size e hi3 hS3.map_ hee (born_nd hEn.born)
    refine at_first (ops := regOps (gAt [4,1,0,2,0,0])) (n := 2) (ss := [.d, .d]) (ob := []) (s := (st2 p6 it (cV p (T.map Lo.m) seen)).put (some 89) (.tuple [.any, .val (ptrV x.sb)])) (s' := stX .any 130 [(6, .val p6), (12, .ptr 0 0), (14, .val (ptrV x.sb)), (86, .val (ptrV it)), (89, .tuple [.any, .val (ptrV x.sb)]), (90, .val (ptrV x.sb))] [.cells (cV p (T.map Lo.m) seen)]) hE.e0 (by kernel_rfl) ho2 hg2
      (exec_v (s := Instr.entry (a3.eval (.tmp 86))) (by unfold execOp; rw [hop2]) (by rw [h86']; exact hent)) (by rw [hdst2]; exact hA3.put 89 (.base (.tuple _ _ rfl fun i c hc => by
        match i with
        | 0 => simp at hc; subst hc; exact .any _
        | 1 => simp at hc; subst hc; show RI _ _ _ e.val; rw [hval]; exact .val _
        | i + 2 => simp at hc))) (by kernel_rfl) trivial fun a4 ρ4 w4 hA4 hX4 => ?_
    have k0 : ρ4 0 = ob := ((hX4.preC 1) 0 (by decide) (.cells (cV p (T.map Lo.m) seen)) (show (0 : Nat) < 2 by decide) rfl).2.trans g0
    have hfr4 : ∀ b, b < w3.heap.size → b ≠ ob → w4.heap[b]? = w3.heap[b]? := fun b h1 h2 => hX4.frame b h1 fun id hid => by
      match id with
      | 0 => rw [g0]; exact h2.symm
      | id + 1 => exact absurd (by simp [St.put, memL]) hid
    have hS4 : Still w1 mb ob it w4 T ents := hS3.keep hb.2.1 hX4.size fun b h1 h2 _ => hfr4 b h1 h2
    have hi4 : w4.heap[it]? = _ := (hfr4 it hS3.hit.2 hne).trans hi3
    have hF4 := hA4.fits
    have hAq : At B 0 (stQ p6 it x.sb (cV p (T.map Lo.m) seen)) ρ4 a4 w4 := by
      refine at_view hE.e0 hA4 rfl (hA4.asize.trans ((fillT_len _ _ _).trans (fillT_len _ _ _).symm)) (.refl _ _) hF4 (rep_fill (f := fun t => a4.tmps.getD t undef) (fm_cons (hA4.rep 6 _ rfl) (fm_cons (hA4.rep 12 _ rfl) (fm_cons (hA4.rep 14 _ rfl) (fm_cons (hA4.rep 86 _ rfl) fm_nil))))) fun id hid => ?_
      match id with
      | 0 => rw [k0]; exact ⟨Nat.le_trans hE.n1 hob, hE.A _ hob⟩
      | id + 1 => exact absurd (by simp [memL]) hid
    obtain ⟨d1, d2, d3, d4⟩ := dm_bd hbd hv hTl
    have hxm : x.m ∈ T.map Lo.m := List.mem_map.2 ⟨x, List.mem_of_getElem? hx, rfl⟩
    have hMx : (T.map Lo.m)[e.born]? = some x.m := by rw [List.getElem?_map, hx]; rfl
    show curW B 0 Try.prog Q (.code (gAt [4,1,0,2,1])) [.blk 3, .hand R, .blk 2, .seq (gAt [5])] a4 w4
    refine gat_sum hE hx hS4 k0 hAq d1 d2 d3 d4 (hbd _ hxm) fun a5 ρ5 w5 hA5 q0 hS5 hi5 => ?_
    refine hR e hel a5 ρ5 w5 hS5 (hi5.trans hi4) (hv.step hlt hsee) ?_ q0
    unfold cV
    rw [sv_push hMx, sv_push hMx, sv_push hMx, sv_push hMx]
    exact hA5
end
section
variable {B : Bs} {w1 : World} {mb : Nat} {keys : List Int} {l : List Ct} {v0 v16 p6 : Value} {p : Int} {Q : EvX → St → Prop}
theorem op14 : ∃ o, (regOps (gAt [4,0,0]))[1]? = some o ∧ o.op = .range 86 (.tmp 85) ∧ o.dst = some 86 ∧ o.guard = none := by
  have h : ((regOps (gAt [4,0,0]))[1]?).map (fun o => (o.op, o.dst, o.guard)) = some (.range 86 (.tmp 85), some 86, none) := by kernel_rfl
  obtain ⟨o, h1, h2⟩ := Option.map_eq_some_iff.1 h
  simp only [Prod.mk.injEq] at h2
  exact ⟨o, h1, h2⟩
theorem c14 : gAt [4,0,0] = .region 14 (regOps (gAt [4,0,0])) false := by kernel_rfl
theorem cB2 : gAt [4,1] = .block 2 (.loop (gAt [4,1,0,0])) := by kernel_rfl
abbrev stK (p6 : Value) (cs : List AV) (T : List Lo) : St := stX .any 130 [(6, .val p6), (7, .map 0), (12, .ptr 1 0)] [.mp (mpT T), .cells cs]
set_option maxHeartbeats 2000000 in
theorem gat_rest (hE : Env B w1 mb keys l v0 v16) {T : List Lo} {ρ : Nat → Nat} {a : Act} {w : World} (hA : At B 0 (st13 p6 p T) ρ a w) (h0 : ρ 0 = mb) (hH : Hid w1 mb w T) (hbd : ∀ m ∈ T.map Lo.m, BndM 1000000 m) (hTl : T.length ≤ 1000000)
    (hend : ∀ (seen : Array Nat) (ob it : Nat) (ents : Array MapEntry) a' ρ' w', Vis T.length seen → (∀ i, i < T.length → i ∈ seen.toList) → Still w1 mb ob it w' T ents → At B 0 (stE p6 (cV p (T.map Lo.m) seen)) ρ' a' w' → ρ' 0 = ob → curW B 0 Try.prog Q (.code (gAt [5, 0])) [.seq (gAt [6])] a' w') :
    curW B 0 Try.prog Q (.code (gAt [3, 0])) [.seq (gAt [4])] a w := by
  have hb := hE.mbd
  refine at_run 400 [.d, .d, .v (.int .i64 (T.length : Int)), .d, .d, .d] (.code (gAt [4,0,0])) [.seq (gAt [4,1]), .seq (gAt [5])] [6, 7, 12] [0, 1] (s' := stK p6 (six p (T.length : Int) 0 0 0 0) T)
    (ob := [∀ e ∈ mpT T, idsOf e = [], (.int .i64 (((mpT T).length : Nat) : Int) : AV) = .int .i64 (T.length : Int)]) ⟨ids_mpT T, by simp [mpT], trivial⟩ hE.e0 hA (fun a1 ρ1 w2 hA1 hN => ?_)
  have e0 : ρ1 0 = mb := (hN.old 0 0 _ rfl rfl (show (1 : Nat) < 2 by decide)).trans h0
  have e1 : w.heap.size ≤ ρ1 1 := by
    rcases hN.new 1 (by simp [memL]) with ⟨h, _⟩ | h
    · exact absurd rfl h
    · exact h
  have hH1 : Hid w1 mb w2 T := hH.keep hb.2.1 hN.size fun b h1 h2 => hN.frame b h1 fun id hid => by
    match id with
    | 0 => rw [h0]; exact h2.symm
    | id + 1 => exact absurd (by simp [memL]) hid
  have hwn : w1.heap.size ≤ w.heap.size := hH.size
  have hsep1 : ∀ y ∈ T, y.sb ≠ ρ1 1 ∧ y.qb ≠ ρ1 1 := fun y hy => by have := (hH.own y hy).lt; omega
  show (gAt [4,0,0]).wpIn _ _ _ _ _ _
  rw [c14]
  obtain ⟨o, ho, hop, hdst, hg⟩ := op14
  refine at_region ?_
  have hsz : (regOps (gAt [4,0,0])).size = 2 := by kernel_rfl
  have hl2 : ((regOps (gAt [4,0,0])).toList.take 1 ++ (regOps (gAt [4,0,0])).toList.drop 1).length = (regOps (gAt [4,0,0])).size := by rw [List.take_append_drop]; simp
  have ht1 : ((regOps (gAt [4,0,0])).toList.take 1).length = 1 := by simp [hsz]
  have hd1 : ((regOps (gAt [4,0,0])).toList.drop 1).length = 1 := by simp [hsz]
  rw [← hl2]
  refine at_ops hE.e0 _ _ 0 [.d] (stK p6 (six p (T.length : Int) 0 0 0 0) T) (stX .any 130 [(6, .val p6), (7, .map 0), (12, .ptr 1 0), (85, .map 0)] [.mp (mpT T), .cells (six p (T.length : Int) 0 0 0 0)]) [] ρ1 a1 w2 (by rw [List.drop_zero, List.take_append_drop]) (by kernel_rfl) trivial hA1 fun a3 ρ3 w3 hA3 hX => ?_
  rw [ht1, hd1]
  have g0 : ρ3 0 = mb := ((hX.preC 2) 0 (by decide) (.mp (mpT T)) (show (1 : Nat) < 2 by decide) rfl).2.trans e0
  have g1 : ρ3 1 = ρ1 1 := ((hX.preC 2) 1 (by decide) (.cells (six p (T.length : Int) 0 0 0 0)) (show (0 : Nat) < 2 by decide) rfl).2
  have hfr3 : ∀ b, b < w2.heap.size → b ≠ mb → b ≠ ρ1 1 → w3.heap[b]? = w2.heap[b]? := fun b h1 h2 h3 => hX.frame b h1 fun id hid => by
    match id with
    | 0 => rw [e0]; exact h2.symm
    | 1 => exact h3.symm
    | id + 2 => exact absurd (by simp [memL]) hid
  have hF3 := hA3.fits
  obtain ⟨ents, hm1, hm2, hm3⟩ := map_of (g0 ▸ hF3.at_ 0 _ rfl)
  have hEn : Ents T ents := ⟨hm2, hm3⟩
  have hob_lt : ρ1 1 < w3.heap.size := g1 ▸ (hF3.at_ 1 _ rfl).lt
  have h85 : a3.eval (.tmp 85) = .map (some mb) := by
    have := (rep_map (hA3.rep 85 _ rfl)).1
    rw [g0] at this; exact this
  have hrg := run_range_map (P := Try.prog) w3 86 _ _ mb ents ents.size Try.underlying86 hm1
  refine at_hand (i := 1) (n := 0) ho hg (exec_v (s := Instr.range 86 (a3.eval (.tmp 85))) (by unfold execOp; rw [hop]) (by rw [h85]; exact hrg)) ?_
  show (gAt [4,1]).wpIn (FR B.ro) 0 Try.prog (postW B 0 Try.prog Q [.seq (gAt [5])]) _ _
  obtain ⟨wi, hwi⟩ : ∃ wi, wi = w3.alloc (.mapIter (some mb) ents.size #[] ents.size) := ⟨_, rfl⟩
  rw [← hwi, hdst]
  have hiN : wi.heap[w3.heap.size]? = some (.mapIter (some mb) ents.size #[] ents.size) := by rw [hwi]; exact heap_alloc_new w3 _
  have hiO : ∀ b, b < w3.heap.size → wi.heap[b]? = w3.heap[b]? := fun b hb => by rw [hwi]; exact heap_alloc_old w3 _ hb
  have hiS : wi.heap.size = w3.heap.size + 1 := by rw [hwi]; simp
  have hsz3 : w2.heap.size ≤ w3.heap.size := hX.size
  have hsz2 : w1.heap.size ≤ w2.heap.size := hH1.size
  have hS : Still w1 mb (ρ1 1) w3.heap.size wi T ents := by
    refine ⟨⟨fun y hy => ?_, hH1.hi, hH1.nd, fun b h1 h2 => ?_, by omega⟩, (hiO mb (by omega)).trans hm1, ⟨by omega, by omega⟩, by omega, by omega, fun y hy => ?_⟩
    · have hl := (hH1.own y hy).lt
      have hs := hsep1 y hy
      have hh := hH1.hi y hy
      exact (hH1.own y hy).keep ((hiO _ (by omega)).trans (hfr3 _ hl.1 (by omega) hs.1)) ((hiO _ (by omega)).trans (hfr3 _ hl.2 (by omega) hs.2))
    · exact ((hiO _ (by omega)).trans (hfr3 b (by omega) h2 (by omega))).trans (hH1.low b h1 h2)
    · have hl := (hH1.own y hy).lt
      have hs := hsep1 y hy
      exact ⟨hs.1, hs.2, by omega, by omega⟩
  have hAi : At B 0 (st2 p6 w3.heap.size (cV p (T.map Lo.m) #[])) (fun _ => ρ1 1) (a3.put (some 86) (ptrV w3.heap.size)) wi := by
    have hlen : a3.tmps.size = 130 := hA3.asize.trans (fillT_len _ _ _)
    have hget : ∀ t, t ≠ 86 → (a3.put (some 86) (ptrV w3.heap.size)).tmps.getD t undef = a3.tmps.getD t undef := fun t ht => by
      simp [Act.put, Array.getD_eq_getD_getElem?, Array.getElem?_setIfInBounds_ne (Ne.symm ht)]
    have hget86 : (a3.put (some 86) (ptrV w3.heap.size)).tmps.getD 86 undef = ptrV w3.heap.size := by
      simp [Act.put, Array.getD_eq_getD_getElem?, hlen]
    have hF : Fits B.A (memL (st2 p6 w3.heap.size (cV p (T.map Lo.m) #[])).mem) (fun _ => ρ1 1) wi := by
      refine fits2 1 (fun id h => List.getElem?_eq_none (by simpa using h)) (fun i j hi hj _ => by omega) ?_
      intro id b hid hb'
      obtain rfl : id = 0 := by omega
      cases hb'
      have h1 := hF3.at_ 1 _ rfl
      rw [g1] at h1
      obtain ⟨vs, t, q1, q2, q3⟩ := h1
      have hcs : cV p (T.map Lo.m) #[] = six p (T.length : Int) 0 0 0 0 := by unfold cV; rw [List.length_map]; rfl
      rw [hcs]
      refine cells_keep (A := B.A) (m := memL (st2 p6 w3.heap.size (cV p (T.map Lo.m) #[])).mem) (ρ := fun _ => ρ1 1) ⟨vs, t, (hiO _ hob_lt).trans q1, q2, fun i c hi => ?_⟩ (six_int _ _ _ _ _ _)
      obtain ⟨k, n, rfl⟩ := six_int _ _ _ _ _ _ c (List.mem_of_getElem? hi)
      rw [rep_int (q3 i _ hi)]; exact .base (.int _ _)
    refine at_view hE.e0 hA3 rfl (by rw [show (a3.put (some 86) (ptrV w3.heap.size)).tmps.size = a3.tmps.size from by simp [Act.put], hlen]; exact (fillT_len _ _ _).symm) ⟨by rw [hwi]; rfl, by rw [hwi]; rfl, by rw [hwi]; rfl, by omega, fun b hb1 => hiO b (by have := hA3.base; omega), fun D y hD => hiO D (Array.getElem?_eq_some_iff.1 hD).1, fun q r hr => hiO q (Array.getElem?_eq_some_iff.1 hr).1⟩ hF (rep_fill (f := fun t => (a3.put (some 86) (ptrV w3.heap.size)).tmps.getD t undef) (fm_cons ?_ (fm_cons ?_ (fm_cons ?_ fm_nil)))) fun id hid => ?_
    · show Rep _ _ _ _ _ ((a3.put (some 86) (ptrV w3.heap.size)).tmps.getD 6 undef)
      rw [hget 6 (by decide), rep_val (hA3.rep 6 _ rfl)]; exact .base (.val _)
    · show Rep _ _ _ _ _ ((a3.put (some 86) (ptrV w3.heap.size)).tmps.getD 12 undef)
      rw [hget 12 (by decide), (rep_ptr (hA3.rep 12 _ rfl)).1, g1]; exact .ptr 0 0 _ rfl
    · show Rep _ _ _ _ _ ((a3.put (some 86) (ptrV w3.heap.size)).tmps.getD 86 undef)
      rw [hget86]; exact .base (.val _)
    · exact ⟨by have := hE.n1; show B.w.heap.size ≤ ρ1 1; omega, hE.A _ (by omega)⟩
  rw [cB2]
  refine wpIn_block ?_
  refine loopE (fun k a w => ∃ (seen : Array Nat) (c0 : Nat) (ρ : Nat → Nat), k = (leftOf ents seen).size ∧ Still w1 mb (ρ1 1) w3.heap.size w T ents ∧ w.heap[w3.heap.size]? = some (.mapIter (some mb) T.length seen c0) ∧ T.length ≤ c0 ∧ Vis T.length seen ∧ At B 0 (st2 p6 w3.heap.size (cV p (T.map Lo.m) seen)) ρ a w ∧ ρ 0 = ρ1 1) (leftOf ents #[]).size
    ⟨#[], ents.size, _, rfl, hS, by rw [← hm2]; exact hiN, by omega, ⟨by simp, fun i hi => by simp at hi⟩, hAi, rfl⟩ ?_
  rintro k a5 w5 ⟨seen, c0, ρ5, rfl, hS5, hi5, hc5, hv5, hA5, q0⟩
  refine gat_round (R := fun a w => ∃ k', k' < (leftOf ents seen).size ∧ ∃ (seen : Array Nat) (c0 : Nat) (ρ : Nat → Nat), k' = (leftOf ents seen).size ∧ Still w1 mb (ρ1 1) w3.heap.size w T ents ∧ w.heap[w3.heap.size]? = some (.mapIter (some mb) T.length seen c0) ∧ T.length ≤ c0 ∧ Vis T.length seen ∧ At B 0 (st2 p6 w3.heap.size (cV p (T.map Lo.m) seen)) ρ a w ∧ ρ 0 = ρ1 1)
    hE hS5 hEn hi5 hc5 hv5 hA5 q0 hbd hTl (fun e he a6 ρ6 w6 hS6 hi6 hv6 hA6 q6 => ⟨_, left_shrinks ents seen e he, seen.push e.born, ents.size, ρ6, rfl, hS6, hi6, by omega, hv6, hA6, q6⟩) fun a6 ρ6 w6 hz hS6 hA6 q6 => ?_
  exact hend seen _ _ ents a6 ρ6 w6 hv5 (fun i hi => left_none hEn.born hz i (by omega)) hS6 hA6 q6
end
section
theorem cL1 : gAt [2,1,0] = .loop (gAt [2,1,0,0]) := by kernel_rfl
abbrev zero6 : List AV := six 0 0 0 0 0 0
set_option maxHeartbeats 2000000 in
theorem fd_gather {keys : List Int} {l : List Ct} {p : Int} (hll : l.length ≤ 1000000) : FnF Try.prog 19 true [.list (keys.map encU), .list (l.map encK), .int .i64 p] (encV (gathS keys l p)) := by
  refine fn_flow Try.func19 (st := stX (.tuple []) 130 [(0, .list (keys.map encU)), (1, .list (l.map encK)), (2, .int .i64 p)] []) ?_
  refine OkP.g 400 [.d, .d, .d, .d, .v (.int .i64 (l.length : Int)), .d] [0, 2, 6, 7, 16, 17, 18] [0, 1] [2, 1, 0] 0 [] (st' := stX .any 130 [(0, .list (keys.map encU)), (2, .int .i64 p), (6, .ptr 0 0), (7, .map 1), (16, .list (l.map encK)), (17, .int .i64 (l.length : Int)), (18, .int .i64 0)] [.cells zero6, .mp []])
    (ob := [∀ e ∈ ([] : List AV), idsOf e = [], (.int .i64 (((l.map encK).length : Nat) : Int) : AV) = .int .i64 (l.length : Int)]) ⟨fun e he => (by cases he), len_map, trivial⟩ ?_
  intro B hB ρ a w hA
  have hF0 := hA.fits
  have hm0 : ∀ id, B.m id = none := fun id => by
    cases h : B.m id with
    | none => rfl
    | some b => exact absurd (hB id (by rw [h]; simp)) (Nat.not_lt_zero _)
  have e0 : Env0 B := ⟨hm0⟩
  have hlow := hA.low e0
  have l0 := hlow 0 (by simp [memL])
  have l1 := hlow 1 (by simp [memL])
  have lt0 : ρ 0 < w.heap.size := (hF0.at_ 0 _ rfl).lt
  have lt1 : ρ 1 < w.heap.size := (hF0.at_ 1 _ rfl).lt
  have ne01 : ρ 0 ≠ ρ 1 := fun e => absurd (hF0.inj 0 1 (by simp [memL]) (by simp [memL]) e) (by decide)
  have own1 : B.A (ρ 1) := hA.up.own 1 (Nat.zero_le _) (by simp [memL])
  have own0 : B.A (ρ 0) := hA.up.own 0 (Nat.zero_le _) (by simp [memL])
  have hE : Env B w (ρ 1) keys l (a.tmps.getD 0 undef) (a.tmps.getD 16 undef) := ⟨e0, hA.base, ⟨l1, lt1, own1⟩, hA.up.up,
    ((hA.rep 0 _ rfl).ri rfl).mono (fun b hb => ⟨hb.1, hb.2.1, fun e => hb.2.2 1 (by simp [memL]) e.symm⟩) (fun _ _ _ => rfl), ((hA.rep 16 _ rfl).ri rfl).mono (fun b hb => ⟨hb.1, hb.2.1, fun e => hb.2.2 1 (by simp [memL]) e.symm⟩) (fun _ _ _ => rfl)⟩
  have hp6 : a.tmps.getD 6 undef = ptrV (ρ 0) := (rep_ptr (hA.rep 6 _ rfl)).1
  show (gAt [2,1,0]).wpIn (FR B.ro) 0 Try.prog (postW B 0 Try.prog _ [.blk 0, .seq (gAt [3])]) a w
  rw [cL1]
  have hH0 : Hid w (ρ 1) w [] := ⟨fun x h => (by cases h), fun x h => (by cases h), by simp, fun b _ _ => rfl, Nat.le_refl _⟩
  have hA0 : At B 0 (stL keys l (a.tmps.getD 0 undef) (a.tmps.getD 16 undef) (ptrV (ρ 0)) p 0 []) (fun _ => ρ 1) a w := by
    have hnm : ∀ id, memL (stL keys l (a.tmps.getD 0 undef) (a.tmps.getD 16 undef) (ptrV (ρ 0)) p 0 []).mem id ≠ none → (fun _ => ρ 1) id = ρ 1 ∨ w.heap.size ≤ (fun _ : Nat => ρ 1) id := fun id _ => .inl rfl
    have hF : Fits B.A (memL (stL keys l (a.tmps.getD 0 undef) (a.tmps.getD 16 undef) (ptrV (ρ 0)) p 0 []).mem) (fun _ => ρ 1) w := by
      refine fits2 1 (fun id h => List.getElem?_eq_none (by simpa using h)) (fun i j hi hj _ => by omega) ?_
      intro id b hid hb'
      obtain rfl : id = 0 := by omega
      cases hb'
      have h1 : FitsB B.A (memL [.cells zero6, .mp []]) ρ w (ρ 1) (.mp (mpT [])) := hF0.at_ 1 _ rfl
      exact (map_of h1).fits
    refine at_view e0 hA rfl (hA.asize.trans ((fillT_len _ _ _).trans (fillT_len _ _ _).symm)) (.refl _ _) hF (rep_fill (f := fun t => a.tmps.getD t undef) (fm_cons ?_ (fm_cons ?_ (fm_cons ?_ (fm_cons ?_ (fm_cons ?_ (fm_cons ?_ (fm_cons ?_ fm_nil)))))))) fun id hid => ⟨l1, own1⟩
    · exact hE.pin hE.r0 hH0.low hH0.size hnm
    · show Rep _ _ _ _ _ (a.tmps.getD 2 undef)
      rw [rep_int (hA.rep 2 _ rfl)]; exact .base (.int _ _)
    · show Rep _ _ _ _ _ (a.tmps.getD 6 undef)
      rw [hp6]; exact .base (.val _)
    · show Rep _ _ _ _ _ (a.tmps.getD 7 undef)
      rw [(rep_map (hA.rep 7 _ rfl)).1]; exact .map 0 _ rfl
    · exact hE.pin hE.r16 hH0.low hH0.size hnm
    · show Rep _ _ _ _ _ (a.tmps.getD 17 undef)
      rw [rep_int (hA.rep 17 _ rfl)]; exact .base (.int _ _)
    · show Rep _ _ _ _ _ (a.tmps.getD 18 undef)
      rw [rep_int (hA.rep 18 _ rfl)]; exact .base (.int _ _)
  refine loopE (fun k a' w' => ∃ (i : Nat) (T : List Lo) (ρ' : Nat → Nat), k = l.length - i ∧ i ≤ l.length ∧ T.map Lo.m = tblG keys p (l.take i) ∧ At B 0 (stL keys l (a.tmps.getD 0 undef) (a.tmps.getD 16 undef) (ptrV (ρ 0)) p i T) ρ' a' w' ∧ ρ' 0 = ρ 1 ∧ Hid w (ρ 1) w' T) l.length
    ⟨0, [], _, rfl, Nat.zero_le _, rfl, hA0, rfl, hH0⟩ ?_
  rintro k a1 w1 ⟨i, T, ρ1, rfl, hi, hT, hA1, h01, hH1⟩
  refine gat_body (R := fun a' w' => ∃ k', k' < l.length - i ∧ ∃ (i : Nat) (T : List Lo) (ρ' : Nat → Nat), k' = l.length - i ∧ i ≤ l.length ∧ T.map Lo.m = tblG keys p (l.take i) ∧ At B 0 (stL keys l (a.tmps.getD 0 undef) (a.tmps.getD 16 undef) (ptrV (ρ 0)) p i T) ρ' a' w' ∧ ρ' 0 = ρ 1 ∧ Hid w (ρ 1) w' T)
    hE hi hll hT hA1 h01 hH1 (fun T' a' ρ' w' hlt hT' hA' h0' hH' => ⟨l.length - (i + 1), by omega, i + 1, T', ρ', rfl, by omega, hT', hA', h0', hH'⟩) fun a2 ρ2 w2 hie hA2 h02 hH2 => ?_
  have hTl : T.map Lo.m = tblG keys p l := by rw [hT, hie, List.take_length]
  have hbd := tbl_bnd (keys := keys) (p := p) l.length l (Nat.le_refl _)
  rw [List.take_length] at hbd
  have hTn : T.length ≤ l.length := by rw [← List.length_map (f := Lo.m), hTl]; exact hbd.2
  refine gat_rest hE hA2 h02 hH2 (fun m hm => (hbd.1 m (hTl ▸ hm)).le hll) (by omega) fun seen ob it ents a3 ρ3 w3 hv hall hS hA3 h03 => ?_
  have hres : encV (gathS keys l p) = .agg (cV p (T.map Lo.m) seen) := by
    have hv' : Vis (T.map Lo.m).length seen := by rw [List.length_map]; exact hv
    have ha' : ∀ i, i < (T.map Lo.m).length → i ∈ seen.toList := fun i hi => hall i (by simpa using hi)
    unfold cV
    rw [sv_all hv' ha', sv_all hv' ha', sv_all hv' ha', sv_all hv' ha']
    unfold gathS
    rw [← hTl]; rfl
  have hF3 := hA3.fits
  have hob := hS.hob
  have hz : w3.heap[ρ 0]? = w.heap[ρ 0]? := hS.hid.low _ lt0 ne01
  have hA4 : At B 0 (stX .any 130 [(6, .ptr 0 0), (12, .ptr 1 0)] [.cells zero6, .cells (cV p (T.map Lo.m) seen)]) (fun id => match id with | 0 => ρ 0 | _ => ob) a3 w3 := by
    have two : ∀ {i : Nat}, i < 2 → i = 0 ∨ i = 1 := fun h => by omega
    have hF : Fits B.A (memL [.cells zero6, .cells (cV p (T.map Lo.m) seen)]) (fun id => match id with | 0 => ρ 0 | _ => ob) w3 := by
      refine fits2 2 (fun id h => List.getElem?_eq_none (by simpa using h)) ?_ ?_
      · intro i j hi hj he
        rcases two hi with rfl | rfl <;> rcases two hj with rfl | rfl <;> first | rfl | (exfalso; simp only at he; omega)
      · intro id b hid hb'
        rcases two hid with rfl | rfl
        · cases hb'
          obtain ⟨vs, t, q1, q2, q3⟩ := hF0.at_ 0 _ rfl
          refine cells_keep (A := B.A) (m := memL []) (ρ := ρ) ⟨vs, t, hz.trans q1, q2, fun i c hi => ?_⟩ (six_int _ _ _ _ _ _)
          obtain ⟨k, n, rfl⟩ := six_int _ _ _ _ _ _ c (List.mem_of_getElem? hi)
          rw [rep_int (q3 i _ hi)]; exact .base (.int _ _)
        · cases hb'
          have := hF3.at_ 0 _ rfl
          rw [h03] at this
          exact cells_keep this (six_int _ _ _ _ _ _)
    refine at_view e0 hA3 rfl (hA3.asize.trans ((fillT_len _ _ _).trans (fillT_len _ _ _).symm)) (.refl _ _) hF (rep_fill (f := fun t => a3.tmps.getD t undef) (fm_cons ?_ (fm_cons ?_ fm_nil))) fun id hid => ?_
    · show Rep _ _ _ _ _ (a3.tmps.getD 6 undef)
      rw [rep_val (hA3.rep 6 _ rfl)]; exact .ptr 0 0 zero6 rfl
    · show Rep _ _ _ _ _ (a3.tmps.getD 12 undef)
      rw [(rep_ptr (hA3.rep 12 _ rfl)).1, h03]; exact .ptr 1 0 (cV p (T.map Lo.m) seen) rfl
    · match id with
      | 0 => exact ⟨l0, own0⟩
      | id + 1 => exact ⟨Nat.le_trans hE.n1 hob, hE.A _ hob⟩
  rw [hres]
  have hfin : OkP 0 Try.prog gC none [5, 0] .nil (stX .any 130 [(6, .ptr 0 0), (12, .ptr 1 0)] [.cells zero6, .cells (cV p (T.map Lo.m) seen)]) (fun e s => (e = .normal ∨ e = .ret) ∧ FinF Try.prog Try.f19 true (.agg (cV p (T.map Lo.m) seen)) s) :=
    OkP.f 400 [.d, .d] (ob := [p = p, ((T.map Lo.m).length : Int) = ((T.map Lo.m).length : Int), sv Mc.seen (T.map Lo.m) seen = sv Mc.seen (T.map Lo.m) seen, sv Mc.looked (T.map Lo.m) seen = sv Mc.looked (T.map Lo.m) seen, sv Mc.broken (T.map Lo.m) seen = sv Mc.broken (T.map Lo.m) seen, sv misM (T.map Lo.m) seen = sv misM (T.map Lo.m) seen]) ⟨rfl, rfl, rfl, rfl, rfl, rfl, trivial⟩
  exact hfin B hB _ a3 w3 hA4
end
end Go.Proofs.Ytglfbdicclepcaa
