/- How arguments that can be read lie in a world: any type of whole numbers, truth values, strings, structs, arrays and slices of them. For every program. Shapes of arguments that were read. For every program. -/
import Derived.Test.YtglfbdicclepcaaEvR
import Derived.ChangeArms
import Derived.OpenShut
import Derived.Test.YtglfbdicclepcaaEvU
set_option linter.unusedVariables false
set_option linter.unusedSimpArgs false
namespace Go.Proofs.Ytglfbdicclepcaa
set_option maxRecDepth 100000
section
open Go.RowKit Go.WideShapes Go.ChangeShapes

def tileS (P : Program) (S : List TypeId) : Nat → List Field → Nat → Bool
  | o, [], n => Nat.beq o n
  | o, f :: fs, n => Nat.beq f.offset o && S.contains f.type && tileS P S (o + P.cellsOf f.type) fs n
def okS (P : Program) (S : List TypeId) (t : TypeId) : Bool := match P.underlying t with
  | some .bool | some (.int _) | some .string => Nat.beq (P.cellsOf t) 1
  | some (.slice e) => S.contains e && Nat.ble 1 (P.cellsOf e) && Nat.beq (P.cellsOf t) 1
  | some (.struct fs) => tileS P S 0 fs.toList (P.cellsOf t)
  | some (.array n e) => S.contains e && Nat.beq (P.cellsOf t) (n * P.cellsOf e)
  | _ => false

mutual
/-- Cells of a type. -/
def TyC (P : Program) : Nat → TypeId → List AV → Prop
  | 0, _, _ => False
  | d + 1, t, cs => match P.underlying t with
    | some .bool => ∃ b, cs = [.bool b]
    | some (.int k) => ∃ n, cs = [.int k n] ∧ k.min ≤ n ∧ n ≤ k.max
    | some .string => ∃ s, cs = [.str s] ∧ s.size ≤ maxLen
    | some (.slice e) => ∃ l, cs = [.list l] ∧ l.length ≤ maxLen ∧ ∀ y ∈ l, TyV P d e y
    | some (.struct fs) => TyF P d fs.toList cs
    | some (.array n e) => TyA P d e n cs
    | _ => False
  termination_by d _ _ => (d, 0, 0)
/-- A value of a type. -/
def TyV (P : Program) (d : Nat) (t : TypeId) (x : AV) : Prop := match P.underlying t with
  | some (.struct _) | some (.array _ _) => ∃ cs, x = .agg cs ∧ TyC P d t cs
  | _ => TyC P d t [x]
  termination_by (d, 1, 0)
def TyF (P : Program) (d : Nat) : List Field → List AV → Prop
  | [], cs => cs = []
  | f :: fs, cs => ∃ c1 c2, cs = c1 ++ c2 ∧ TyC P d f.type c1 ∧ TyF P d fs c2
  termination_by fs _ => (d, 2, fs.length)
def TyA (P : Program) (d : Nat) (e : TypeId) : Nat → List AV → Prop
  | 0, cs => cs = []
  | n + 1, cs => ∃ c1 c2, cs = c1 ++ c2 ∧ TyC P d e c1 ∧ TyA P d e n c2
  termination_by n _ => (d, 2, n)
end

section
variable {P : Program} {H : Type} {enc : TypeId × Value → H} {w : World} {base : Nat} {spare : Nat → Bool} {held : Bool}

/-- Cells that lie as values. -/
def LiesC (w : World) (acs : List AV) (cs : List Value) : Prop := acs.length = cs.length ∧ ∀ i c, acs[i]? = some c → RI w (fun b => b < w.heap.size) c (cs.getD i undef)

theorem LiesC.one {x : AV} {v : Value} (h : RI w (fun b => b < w.heap.size) x v) : LiesC w [x] [v] := ⟨rfl, fun i c hc => by
  cases i with
  | zero => simp at hc; subst hc; exact h
  | succ i => simp at hc⟩
theorem LiesC.app {a b : List AV} {u v : List Value} (h : LiesC w a u) (k : LiesC w b v) : LiesC w (a ++ b) (u ++ v) := by
  refine ⟨by simp [h.1, k.1], fun i c hc => ?_⟩
  by_cases hi : i < a.length
  · rw [List.getElem?_append_left hi] at hc
    have := h.2 i c hc
    rwa [List.getD_eq_getElem?_getD, List.getElem?_append_left (by rw [← h.1]; exact hi), ← List.getD_eq_getElem?_getD]
  · rw [List.getElem?_append_right (by omega)] at hc
    have := k.2 _ c hc
    rwa [List.getD_eq_getElem?_getD, List.getElem?_append_right (by rw [← h.1]; omega), ← h.1, ← List.getD_eq_getElem?_getD]

theorem ex_list {α : Type} {p : Nat → α → Prop} : ∀ (n : Nat), (∀ i, i < n → ∃ y, p i y) → ∃ l : List α, l.length = n ∧ ∀ i y, l[i]? = some y → p i y
  | 0, _ => ⟨[], rfl, fun i y h => by simp at h⟩
  | n + 1, h => by
    obtain ⟨l, h1, h2⟩ := ex_list n (fun i hi => h i (by omega))
    obtain ⟨y, hy⟩ := h n (by omega)
    refine ⟨l ++ [y], by simp [h1], fun i z hz => ?_⟩
    by_cases hi : i < l.length
    · rw [List.getElem?_append_left hi] at hz; exact h2 i z hz
    · rw [List.getElem?_append_right (by omega)] at hz
      have : i - l.length = 0 := by
        have := (List.getElem?_eq_some_iff.1 hz).1
        simp at this; omega
      rw [this] at hz
      simp at hz; subst hz
      rw [show i = n by omega]; exact hy

theorem spot_plain {a : Addr} {o : Nat} {v : Value} (h : w.cell? (a.add o) = some v) (h0 : o = 0) : a.spot = none := by
  subst h0
  have h1 : w.cell? a = some v := by simpa [Addr.add] using h
  unfold World.cell? at h1
  split at h1
  · split at h1
    · cases h1
    · rename_i hs; simpa using hs
  · cases h1

theorem mapM_get {α β : Type} {f : α → Option β} : ∀ {l : List α} {ys : List β}, l.mapM f = some ys → ys.length = l.length ∧ ∀ (i : Nat) (x : α), l[i]? = some x → f x = ys[i]?
  | [], ys, h => by simp at h; subst h; exact ⟨rfl, fun i x hx => by simp at hx⟩
  | a :: l, ys, h => by
    rw [List.mapM_cons] at h
    cases ha : f a with
    | none => rw [ha] at h; cases h
    | some b =>
      rw [ha] at h
      cases hl : l.mapM f with
      | none => rw [hl] at h; cases h
      | some bs =>
        rw [hl] at h
        cases h
        obtain ⟨h1, h2⟩ := mapM_get hl
        refine ⟨by simp [h1], fun i x hx => ?_⟩
        cases i with
        | zero => simp at hx; subst hx; simpa using ha
        | succ i => simpa using h2 i x (by simpa using hx)

theorem cells_get {a : Addr} {n : Nat} {cs : List Value} (h : w.cells? base a n = some cs) : cs.length = n ∧ ∀ i, i < n → w.cell? (a.add i) = cs[i]? := by
  unfold World.cells? at h
  split at h
  · obtain ⟨h1, h2⟩ := mapM_get h
    exact ⟨by simpa using h1, fun i hi => h2 i i (by simp [hi])⟩
  · cases h

theorem read_cells {S : List TypeId} (hS : S.all (okS P S) = true) : ∀ (fuel : Nat) (t : TypeId) (cs : List Value) (x : DataW H × List MemPlace), t ∈ S → DataW.trod enc P w base spare held fuel t cs = some x → ∃ acs, LiesC w acs cs ∧ acs.length = P.cellsOf t ∧ TyC P fuel t acs := by
  intro fuel
  induction fuel with
  | zero => intro t cs x _ h; simp [DataW.trod] at h
  | succ d ih =>
    intro t cs x ht h
    have hok := List.all_eq_true.1 hS t ht
    unfold okS at hok
    unfold TyC
    cases hu : P.underlying t with
    | none => rw [hu] at hok; cases hok
    | some ds =>
      rw [hu] at hok
      cases ds with
      | bool =>
        obtain ⟨b, rfl, _⟩ := DataW.trod_bool hu h
        exact ⟨[.bool b], .one (.bool b), (Nat.eq_of_beq_eq_true hok).symm, b, rfl⟩
      | int k =>
        obtain ⟨n, rfl, _, hw⟩ := DataW.trod_int hu h
        refine ⟨[.int k n], .one (.int k n), (Nat.eq_of_beq_eq_true hok).symm, n, rfl, ?_⟩
        simpa [Lit.wf] using hw
      | string =>
        obtain ⟨s, rfl, _, hw⟩ := DataW.trod_string hu h
        exact ⟨[.str s], .one (.str s), (Nat.eq_of_beq_eq_true hok).symm, s, rfl, hw⟩
      | slice e =>
        simp only [Bool.and_eq_true] at hok
        obtain ⟨⟨hoe, hoc⟩, hot⟩ := hok
        have hoe : e ∈ S := by simpa using hoe
        have hoc := Nat.le_of_ble_eq_true hoc
        have hot := Nat.eq_of_beq_eq_true hot
        rcases DataW.trod_slice hu h with ⟨rfl, _⟩ | ⟨a, len, cap, elems, rest, n, hn, rfl, _, hb, hl, hm, hlen, hel, _, _⟩
        · exact ⟨[.list []], .one (.lnil none 0 (fun _ => rfl)), hot.symm, [], rfl, Nat.zero_le _, fun y hy => by simp at hy⟩
        · obtain rfl : d = n := by omega
          have hone : ∀ i, i < len → ∃ y : AV, (cellsOf y).length = P.cellsOf e ∧ TyV P d e y ∧ ∀ j c, (cellsOf y)[j]? = some c → ∃ v, w.cell? ((a.add (i * P.cellsOf e)).add j) = some v ∧ RI w (fun b => b < w.heap.size) c v := fun i hi => by
            have h1 := hel i hi
            have h2 : elems[i]? = some (elems[i]'(by omega)) := List.getElem?_eq_getElem (by omega)
            rw [h2] at h1
            obtain ⟨cs', h3, h4⟩ := Option.bind_eq_some_iff.1 h1
            obtain ⟨h5, h6⟩ := cells_get h3
            obtain ⟨acs, h7, h8, h9⟩ := ih e cs' _ hoe h4
            have mk : ∀ y : AV, cellsOf y = acs → TyV P d e y → ∃ y : AV, (cellsOf y).length = P.cellsOf e ∧ TyV P d e y ∧ ∀ j c, (cellsOf y)[j]? = some c → ∃ v, w.cell? ((a.add (i * P.cellsOf e)).add j) = some v ∧ RI w (fun b => b < w.heap.size) c v := fun y hy ht => by
              refine ⟨y, by rw [hy]; exact h8, ht, fun j c hc => ?_⟩
              rw [hy] at hc
              have hj := (List.getElem?_eq_some_iff.1 hc).1
              refine ⟨cs'.getD j undef, ?_, h7.2 j c hc⟩
              rw [h6 j (by omega), List.getD_eq_getElem?_getD, List.getElem?_eq_getElem (by omega)]; rfl
            have hoke := List.all_eq_true.1 hS e hoe
            unfold okS at hoke
            cases hue : P.underlying e with
            | none => rw [hue] at hoke; cases hoke
            | some de =>
              rw [hue] at hoke
              have agg : (match P.underlying e with | some (.struct _) | some (.array _ _) => True | _ => False) → ∃ y : AV, (cellsOf y).length = P.cellsOf e ∧ TyV P d e y ∧ ∀ j c, (cellsOf y)[j]? = some c → ∃ v, w.cell? ((a.add (i * P.cellsOf e)).add j) = some v ∧ RI w (fun b => b < w.heap.size) c v := fun hag => by
                refine mk (.agg acs) rfl ?_
                unfold TyV
                split
                · exact ⟨acs, rfl, h9⟩
                · exact ⟨acs, rfl, h9⟩
                · rename_i h10 h11; rw [hue] at hag h10 h11
                  cases de <;> first | exact absurd rfl (h10 _) | exact absurd rfl (h11 _ _) | cases hag
              have sc : (∃ c, acs = [c] ∧ isCell c = true) → (match P.underlying e with | some (.struct _) | some (.array _ _) => False | _ => True) → ∃ y : AV, (cellsOf y).length = P.cellsOf e ∧ TyV P d e y ∧ ∀ j c, (cellsOf y)[j]? = some c → ∃ v, w.cell? ((a.add (i * P.cellsOf e)).add j) = some v ∧ RI w (fun b => b < w.heap.size) c v := fun ⟨c, hc, hic⟩ hns => by
                refine mk c (by rw [hc]; cases c <;> first | rfl | cases hic) ?_
                unfold TyV
                split
                · rename_i h10; rw [h10] at hns; exact hns.elim
                · rename_i h10; rw [h10] at hns; exact hns.elim
                · rw [← hc]; exact h9
              cases de with
              | struct fs => exact agg (by rw [hue]; trivial)
              | array n e' => exact agg (by rw [hue]; trivial)
              | bool =>
                have h9' := h9
                cases d with
                | zero => simp [TyC] at h9'
                | succ d => unfold TyC at h9'; rw [hue] at h9'; obtain ⟨b, hb⟩ := h9'; exact sc ⟨_, hb, rfl⟩ (by rw [hue]; trivial)
              | int k =>
                have h9' := h9
                cases d with
                | zero => simp [TyC] at h9'
                | succ d => unfold TyC at h9'; rw [hue] at h9'; obtain ⟨b, hb, _⟩ := h9'; exact sc ⟨_, hb, rfl⟩ (by rw [hue]; trivial)
              | string =>
                have h9' := h9
                cases d with
                | zero => simp [TyC] at h9'
                | succ d => unfold TyC at h9'; rw [hue] at h9'; obtain ⟨b, hb, _⟩ := h9'; exact sc ⟨_, hb, rfl⟩ (by rw [hue]; trivial)
              | slice e' =>
                have h9' := h9
                cases d with
                | zero => simp [TyC] at h9'
                | succ d => unfold TyC at h9'; rw [hue] at h9'; obtain ⟨b, hb, _⟩ := h9'; exact sc ⟨_, hb, rfl⟩ (by rw [hue]; trivial)
              | _ => cases hoke
          obtain ⟨l, hll, hlp⟩ := ex_list len hone
          refine ⟨[.list l], .one ?_, hot.symm, l, rfl, by omega, fun y hy => ?_⟩
          · by_cases h0 : len = 0
            · have : l = [] := List.length_eq_zero_iff.1 (by omega)
              subst this h0
              exact .lnil _ _ (fun h => by cases h)
            · have hsp : a.spot = none := by
                obtain ⟨y, hy⟩ : ∃ y, l[0]? = some y := ⟨l[0], List.getElem?_eq_getElem (by omega)⟩
                obtain ⟨p1, p2, p3⟩ := hlp 0 y hy
                obtain ⟨c, hc⟩ : ∃ c, (cellsOf y)[0]? = some c := ⟨_, List.getElem?_eq_getElem (by omega)⟩
                obtain ⟨v, hv, _⟩ := p3 0 c hc
                exact spot_plain (o := 0) (by simpa [Addr.add] using hv) rfl
              obtain ⟨b, o, sp⟩ := a
              obtain rfl : sp = none := hsp
              have hblk : b < w.heap.size := by
                obtain ⟨y, hy⟩ : ∃ y, l[0]? = some y := ⟨l[0], List.getElem?_eq_getElem (by omega)⟩
                obtain ⟨p1, p2, p3⟩ := hlp 0 y hy
                obtain ⟨c, hc⟩ : ∃ c, (cellsOf y)[0]? = some c := ⟨_, List.getElem?_eq_getElem (by omega)⟩
                obtain ⟨v, hv, _⟩ := p3 0 c hc
                have := World.block_lt_of_cell? w _ hv
                simpa [Addr.add] using this
              rw [← hll]
              have hval : ∀ i e' j c, l[i]? = some e' → (cellsOf e')[j]? = some c → w.cell? ⟨b, o + i * P.cellsOf e + j, none⟩ = some ((w.cell? ⟨b, o + i * P.cellsOf e + j, none⟩).getD undef) ∧ RI w (fun b => b < w.heap.size) c ((w.cell? ⟨b, o + i * P.cellsOf e + j, none⟩).getD undef) := fun i e' j c he hc => by
                obtain ⟨p1, p2, p3⟩ := hlp i e' he
                obtain ⟨v, hv, hr⟩ := p3 j c hc
                rw [addr_add, addr_add] at hv
                rw [hv]; exact ⟨rfl, hr⟩
              refine .list l b o cap (P.cellsOf e) (fun i j => (w.cell? ⟨b, o + i * P.cellsOf e + j, none⟩).getD undef) (by omega) (fun _ => hblk) (fun y hy => ?_) (fun i e' j c he hc => (hval i e' j c he hc).1) (fun i e' j c he hc => (hval i e' j c he hc).2)
              obtain ⟨i, hi⟩ := List.mem_iff_getElem?.1 hy
              exact (hlp i y hi).1
          · obtain ⟨i, hi⟩ := List.mem_iff_getElem?.1 hy
            exact (hlp i y hi).2.1
      | struct fs =>
        obtain ⟨xs, n, hn, _, hcl, hxl, hf⟩ := DataW.trod_struct hu h
        obtain rfl : d = n := by omega
        have key : ∀ (l : List Field) (off k : Nat) (cs' : List Value), tileS P S off l (P.cellsOf t) = true → cs' = cs.drop off → (∀ i f, l[i]? = some f → DataW.trod enc P w base spare held d f.type ((cs.drop f.offset).take (P.cellsOf f.type)) = xs[k + i]?) → k + l.length ≤ xs.length →
            ∃ acs, LiesC w acs cs' ∧ TyF P d l acs := by
          intro l
          induction l with
          | nil =>
            intro off k cs' ht' hc _ _
            have := Nat.eq_of_beq_eq_true ht'
            refine ⟨[], ?_, by unfold TyF; rfl⟩
            have : cs' = [] := by rw [hc]; apply List.drop_eq_nil_of_le; omega
            subst this
            exact ⟨rfl, fun i c hc => by simp at hc⟩
          | cons f l ihl =>
            intro off k cs' ht' hc hfs hkl
            simp only [tileS, Bool.and_eq_true] at ht'
            obtain ⟨⟨e1, e2⟩, e3⟩ := ht'
            have e1 := Nat.eq_of_beq_eq_true e1
            have e2 : f.type ∈ S := by simpa using e2
            have h0 := hfs 0 f rfl
            simp only [List.length_cons] at hkl
            have hx0 : xs[k + 0]? = some (xs[k]'(by omega)) := by simp [show k < xs.length by omega]
            rw [hx0, e1] at h0
            obtain ⟨a1, q1, q2, q3⟩ := ih f.type _ _ e2 h0
            obtain ⟨a2, q4, q5⟩ := ihl (off + P.cellsOf f.type) (k + 1) (cs.drop (off + P.cellsOf f.type)) e3 rfl (fun i g hg => by
              have := hfs (i + 1) g (by simpa using hg)
              rwa [show k + (i + 1) = k + 1 + i by omega] at this) (by omega)
            refine ⟨a1 ++ a2, ?_, ?_⟩
            · have : cs' = (cs.drop off).take (P.cellsOf f.type) ++ cs.drop (off + P.cellsOf f.type) := by
                rw [hc, ← List.drop_drop, List.take_append_drop]
              rw [this]
              exact q1.app q4
            · unfold TyF
              exact ⟨a1, a2, rfl, q3, q5⟩
        obtain ⟨acs, q1, q2⟩ := key fs.toList 0 0 cs hok (by simp) (fun i f hf' => by rw [Nat.zero_add]; exact hf i f (by simpa using hf')) (by simp [hxl])
        exact ⟨acs, q1, by rw [q1.1, hcl], q2⟩
      | array n e =>
        simp only [Bool.and_eq_true] at hok
        have hoe : e ∈ S := by simpa using hok.1
        have hot := Nat.eq_of_beq_eq_true hok.2
        obtain ⟨xs, n', hn, _, hcl, hxl, hf⟩ := DataW.trod_array hu h
        obtain rfl : d = n' := by omega
        have key : ∀ (m k : Nat) (cs' : List Value), k + m = n → cs' = cs.drop (k * P.cellsOf e) → ∃ acs, LiesC w acs cs' ∧ TyA P d e m acs := by
          intro m
          induction m with
          | zero =>
            intro k cs' hk hc
            refine ⟨[], ?_, by unfold TyA; rfl⟩
            have : cs' = [] := by
              rw [hc]; apply List.drop_eq_nil_of_le
              rw [hcl, hot, show k = n by omega]; exact Nat.le_refl _
            subst this
            exact ⟨rfl, fun i c hc => by simp at hc⟩
          | succ m ihm =>
            intro k cs' hk hc
            have h0 := hf k (by omega)
            have hx0 : xs[k]? = some (xs[k]'(by omega)) := List.getElem?_eq_getElem (by omega)
            rw [hx0] at h0
            obtain ⟨a1, q1, q2, q3⟩ := ih e _ _ hoe h0
            obtain ⟨a2, q4, q5⟩ := ihm (k + 1) (cs.drop ((k + 1) * P.cellsOf e)) (by omega) rfl
            refine ⟨a1 ++ a2, ?_, by unfold TyA; exact ⟨a1, a2, rfl, q3, q5⟩⟩
            have : cs' = (cs.drop (k * P.cellsOf e)).take (P.cellsOf e) ++ cs.drop ((k + 1) * P.cellsOf e) := by
              rw [hc, Nat.add_mul, Nat.one_mul, ← List.drop_drop, List.take_append_drop]
            rw [this]
            exact q1.app q4
        obtain ⟨acs, q1, q2⟩ := key n 0 cs (by omega) (by simp)
        exact ⟨acs, q1, by rw [q1.1, hcl], q2⟩
      | _ => cases hok

/-- An argument that was read. -/
theorem read_arg {S : List TypeId} (hS : S.all (okS P S) = true) {t : TypeId} (ht : t ∈ S) {r : Reach} {b0 : Nat} {v : Value} {d : DataW H} {p : List MemPlace} (hv : Value.okWide P w r b0 t v) (h : DataW.Trod enc P w base spare held t v d p) :
    ∃ x fuel, RI w (fun b => b < w.heap.size) x v ∧ TyV P fuel t x := by
  obtain ⟨fuel, hf⟩ := h
  obtain ⟨acs, h1, h2, h3⟩ := read_cells hS fuel t _ _ ht hf
  have agg : (∃ cs, v = .agg cs) → ∃ x, x = AV.agg acs ∧ RI w (fun b => b < w.heap.size) x v := fun ⟨cs, hc⟩ => by
    subst hc
    refine ⟨_, rfl, .agg acs cs (by have := h1.1; simp [Value.cells] at this; omega) fun i c hc => ?_⟩
    have := h1.2 i c hc
    simpa [Value.cells, List.getD_eq_getElem?_getD, Array.getD_eq_getD_getElem?] using this
  cases hu : P.underlying t with
  | none => simp [Value.okWide, hu, Cell.okWide, Cell.ok] at hv
  | some ds =>
    cases ds with
    | struct fs =>
      simp only [Value.okWide, hu] at hv
      obtain ⟨cs, hc, _⟩ := hv
      obtain ⟨x, hx, hr⟩ := agg ⟨cs, hc⟩
      exact ⟨x, fuel, hr, by unfold TyV; rw [hu]; exact ⟨acs, hx, h3⟩⟩
    | array n e =>
      simp only [Value.okWide, hu] at hv
      obtain ⟨cs, hc, _⟩ := hv
      obtain ⟨x, hx, hr⟩ := agg ⟨cs, hc⟩
      exact ⟨x, fuel, hr, by unfold TyV; rw [hu]; exact ⟨acs, hx, h3⟩⟩
    | _ =>
      have hok := List.all_eq_true.1 hS t ht
      unfold okS at hok
      rw [hu] at hok
      have hna : ∀ cs, v ≠ .agg cs := fun cs hc => by
        subst hc
        simp [Value.okWide, hu, Cell.okWide, Cell.ok] at hv
      have hcv : v.cells.toList = [v] := by cases v <;> first | rfl | exact absurd rfl (hna _)
      have hlen := h1.1
      rw [hcv] at h1 hlen
      match acs, hlen, h1, h3 with
      | [c], _, h1, h3 => exact ⟨c, fuel, by simpa using h1.2 0 c rfl, by unfold TyV; rw [hu]; exact h3⟩

end
end
section
open Go.RowKit Go.WideShapes Go.ChangeShapes

inductive Sh where
  | bool
  | int (k : IntKind)
  | str
  | slice (s : Sh)
  | agg (l : List Sh)

def ShL (p : Sh → AV → Prop) : List Sh → List AV → Prop
  | [], cs => cs = []
  | s :: ss, cs => ∃ c r, cs = c :: r ∧ p s c ∧ ShL p ss r

mutual
def ShV : Sh → AV → Prop
  | .bool, x => ∃ b, x = .bool b
  | .int k, x => ∃ n, x = .int k n ∧ k.min ≤ n ∧ n ≤ k.max
  | .str, x => ∃ s : ByteArray, x = .str s ∧ s.size ≤ maxLen
  | .slice s, x => ∃ l : List AV, x = .list l ∧ l.length ≤ maxLen ∧ ∀ y ∈ l, ShV s y
  | .agg ss, x => ∃ cs : List AV, x = .agg cs ∧ ShW ss cs
def ShW : List Sh → List AV → Prop
  | [], cs => cs = []
  | s :: ss, cs => ∃ c r, cs = c :: r ∧ ShV s c ∧ ShW ss r
end

theorem ShW.app : ∀ {s1 s2 : List Sh} {c1 c2 : List AV}, ShW s1 c1 → ShW s2 c2 → ShW (s1 ++ s2) (c1 ++ c2)
  | [], s2, c1, c2, h, k => by
    have : c1 = [] := by unfold ShW at h; exact h
    subst this; exact k
  | s :: s1, s2, c1, c2, h, k => by
    unfold ShW at h
    obtain ⟨c, r, rfl, h1, h2⟩ := h
    show ShW (s :: (s1 ++ s2)) (c :: (r ++ c2))
    unfold ShW
    exact ⟨c, _, rfl, h1, h2.app k⟩

def shF (f : TypeId → Option (List Sh)) : List Field → Option (List Sh)
  | [] => some []
  | g :: fs => match f g.type, shF f fs with
    | some a, some b => some (a ++ b)
    | _, _ => none
def shA (a : List Sh) : Nat → List Sh
  | 0 => []
  | n + 1 => a ++ shA a n
def shU (d : Option TypeDesc) (c : Option (List Sh)) : Option Sh := match d with
  | some (.struct _) | some (.array _ _) => c.map .agg
  | _ => match c with
    | some [s] => some s
    | _ => none
def shC (P : Program) : Nat → TypeId → Option (List Sh)
  | 0, _ => none
  | d + 1, t => match P.underlying t with
    | some .bool => some [.bool]
    | some (.int k) => some [.int k]
    | some .string => some [.str]
    | some (.slice e) => (shU (P.underlying e) (shC P d e)).map fun s => [.slice s]
    | some (.struct fs) => shF (shC P d) fs.toList
    | some (.array n e) => (shC P d e).map fun a => shA a n
    | _ => none
def shV (P : Program) (d : Nat) (t : TypeId) : Option Sh := shU (P.underlying t) (shC P d t)

section
variable {P : Program}

theorem tyV_sh {d : Nat} {n : Nat} (ih : ∀ (d : Nat) (t : TypeId) (ss : List Sh) (cs : List AV), shC P n t = some ss → TyC P d t cs → ShW ss cs) {t : TypeId} {s : Sh} {x : AV} (h : shV P n t = some s) (k : TyV P d t x) : ShV s x := by
  unfold shV shU at h
  unfold TyV at k
  have one : ∀ {c : Option (List Sh)}, (match c with | some [s] => some s | _ => none) = some s → shC P n t = c → TyC P d t [x] → ShV s x := fun h hc k => by
    split at h
    · cases h
      have := ih d t _ _ hc k
      unfold ShW at this
      obtain ⟨c, r, h1, h2, _⟩ := this
      cases h1; exact h2
    · cases h
  split at h
  · rename_i hu
    rw [hu] at k
    obtain ⟨ss, h1, rfl⟩ := Option.map_eq_some_iff.1 h
    obtain ⟨cs, rfl, k⟩ := k
    unfold ShV
    exact ⟨cs, rfl, ih d t ss cs h1 k⟩
  · rename_i hu
    rw [hu] at k
    obtain ⟨ss, h1, rfl⟩ := Option.map_eq_some_iff.1 h
    obtain ⟨cs, rfl, k⟩ := k
    unfold ShV
    exact ⟨cs, rfl, ih d t ss cs h1 k⟩
  · rename_i h1 h2
    refine one h rfl ?_
    split at k
    · rename_i hu; exact absurd hu (h1 _)
    · rename_i hu; exact absurd hu (h2 _ _)
    · exact k

theorem tyC_sh : ∀ (n d : Nat) (t : TypeId) (ss : List Sh) (cs : List AV), shC P n t = some ss → TyC P d t cs → ShW ss cs
  | 0, d, t, ss, cs, h, _ => by simp [shC] at h
  | n + 1, 0, t, ss, cs, h, k => by unfold TyC at k; exact k.elim
  | n + 1, d + 1, t, ss, cs, h, k => by
    simp only [shC] at h
    unfold TyC at k
    split at h
    · rename_i hu; rw [hu] at k; cases h
      obtain ⟨b, rfl⟩ := k
      unfold ShW; exact ⟨_, _, rfl, by unfold ShV; exact ⟨b, rfl⟩, by unfold ShW; rfl⟩
    · rename_i hu; rw [hu] at k; cases h
      obtain ⟨b, rfl, h1⟩ := k
      unfold ShW; exact ⟨_, _, rfl, by unfold ShV; exact ⟨b, rfl, h1⟩, by unfold ShW; rfl⟩
    · rename_i hu; rw [hu] at k; cases h
      obtain ⟨b, rfl, h1⟩ := k
      unfold ShW; exact ⟨_, _, rfl, by unfold ShV; exact ⟨b, rfl, h1⟩, by unfold ShW; rfl⟩
    · rename_i e hu; rw [hu] at k
      obtain ⟨s, h1, rfl⟩ := Option.map_eq_some_iff.1 h
      obtain ⟨l, rfl, h2, h3⟩ := k
      unfold ShW
      exact ⟨_, _, rfl, by unfold ShV; exact ⟨l, rfl, h2, fun y hy => tyV_sh (tyC_sh n) h1 (h3 y hy)⟩, by unfold ShW; rfl⟩
    · rename_i fs hu; rw [hu] at k
      replace k : TyF P d fs.toList cs := k
      revert h k
      generalize fs.toList = l
      induction l generalizing ss cs with
      | nil =>
        intro h k
        simp only [shF] at h; cases h
        unfold TyF at k
        unfold ShW; exact k
      | cons g l ihl =>
        intro h k
        simp only [shF] at h
        unfold TyF at k
        obtain ⟨c1, c2, rfl, k1, k2⟩ := k
        split at h
        · rename_i a b h1 h2
          cases h
          exact (tyC_sh n d _ _ _ h1 k1).app (ihl _ _ h2 k2)
        · cases h
    · rename_i m e hu; rw [hu] at k
      replace k : TyA P d e m cs := k
      obtain ⟨a, h1, rfl⟩ := Option.map_eq_some_iff.1 h
      clear h hu
      induction m generalizing cs with
      | zero => unfold TyA at k; unfold shA ShW; exact k
      | succ m ihm =>
        unfold TyA at k
        obtain ⟨c1, c2, rfl, k1, k2⟩ := k
        exact (tyC_sh n d _ _ _ h1 k1).app (ihm _ k2)
    · cases h

variable {H : Type} {enc : TypeId × Value → H} {w : World} {base : Nat} {spare : Nat → Bool} {held : Bool}

/-- An argument that was read, by its shape. -/
theorem read_sh {S : List TypeId} (hS : S.all (okS P S) = true) {t : TypeId} (ht : S.contains t = true) {s : Sh} (hs : shV P 30 t = some s) {r : Reach} {b0 : Nat} {v : Value} {d : DataW H} {p : List MemPlace} (hv : Value.okWide P w r b0 t v) (h : DataW.Trod enc P w base spare held t v d p) :
    ∃ x, RI w (fun b => b < w.heap.size) x v ∧ ShV s x := by
  obtain ⟨x, fuel, h1, h2⟩ := read_arg hS (by simpa using ht) hv h
  exact ⟨x, h1, tyV_sh (tyC_sh 30) hs h2⟩

theorem list_enc {α : Type} {f : α → AV} {p : α → Prop} {s : Sh} (h : ∀ y, ShV s y → ∃ a, y = f a ∧ p a) {x : AV} (hx : ShV (.slice s) x) : ∃ l : List α, x = .list (l.map f) ∧ l.length ≤ maxLen ∧ ∀ a ∈ l, p a := by
  unfold ShV at hx
  obtain ⟨l, rfl, hl, hp⟩ := hx
  obtain ⟨l', h1, h2⟩ : ∃ l' : List α, l = l'.map f ∧ ∀ a ∈ l', p a := by
    clear hl
    induction l with
    | nil => exact ⟨[], rfl, fun a ha => by cases ha⟩
    | cons y l ih =>
      obtain ⟨l', e1, e2⟩ := ih fun z hz => hp z (List.mem_cons_of_mem _ hz)
      obtain ⟨a, e3, e4⟩ := h y (hp y List.mem_cons_self)
      refine ⟨a :: l', by rw [e1, e3]; rfl, fun b hb => ?_⟩
      rcases List.mem_cons.1 hb with rfl | hb
      · exact e4
      · exact e2 b hb
  subst h1
  exact ⟨l', rfl, by simpa using hl, h2⟩

theorem getD_all {α : Type} {p : α → Prop} {l : List α} (h : ∀ a ∈ l, p a) (d : α) (n : Nat) (hn : n < l.length) : p (l.getD n d) := by
  rw [List.getD_eq_getElem?_getD, List.getElem?_eq_getElem hn]
  exact h _ (List.getElem_mem hn)

/-- Arguments that lie as values, one after the other. -/
def ArgsL (w : World) : List AV → List Value → Prop
  | [], [] => True
  | x :: xs, v :: vs => RI w (fun b => b < w.heap.size) x v ∧ ArgsL w xs vs
  | _, _ => False
theorem ArgsL.get : ∀ {xs : List AV} {vs : List Value}, ArgsL w xs vs → vs.length = xs.length ∧ ∀ i x, xs[i]? = some x → RI w (fun b => b < w.heap.size) x (vs.getD i undef)
  | [], [], _ => ⟨rfl, fun i x h => by simp at h⟩
  | x :: xs, v :: vs, h => by
    obtain ⟨e1, e2⟩ := ArgsL.get h.2
    refine ⟨by simp [e1], fun i y hy => ?_⟩
    cases i with
    | zero => simp at hy; subst hy; exact h.1
    | succ i => exact e2 i y (by simpa using hy)
  | [], _ :: _, h => h.elim
  | _ :: _, [], h => h.elim
theorem law_calls {f : FuncId} {fr : Bool} {args : List AV} (h : FnF P f fr args (.bool true)) {vs : List Value} (hr : ArgsL w args vs) : Calls P f vs.toArray w fun e w' => e = .returned (.bool true) ∧ Below w.heap.size w w' := by
  obtain ⟨h1, h2⟩ := hr.get
  refine h.law (by simpa using h1) fun i x hx => ?_
  have := h2 i x hx
  simpa [Array.getD_eq_getD_getElem?, List.getD_eq_getElem?_getD] using this

end
end
end Go.Proofs.Ytglfbdicclepcaa
