/- parolelaw01.NumConditions, the walk: negation, conjunction, disjunction, and what is not less. -/
import Derived.Test.YtfhfdenmcneamaaNumOrd
import Derived.Test.YtfhfdenmcneamaaSize
import Derived.Deep.RegionHeld3
set_option linter.unusedVariables false
namespace Go.Proofs.Ytfhfdenmcneamaa
open Go.ChangeShapes Go.WideShapes Go.ChangeAt Go.RowKit

attribute [local go_sem] exVal coVal

def NotPost (x : Co) (w : World) (r : Ending) (w' : World) : Prop :=
  ∃ b, r = .returned (.agg #[.int .i64 5, .slice none 0 0, .slice (some ⟨b, 0, none⟩) 1 1]) ∧ CoV w' (.mk 5 [] [x]) none 0 (some ⟨b, 0, none⟩) 1 ∧ Below w.heap.size w w'

theorem not_ex (x : Co) (xa ka : Option Addr) (xc kc : Nat) (w : World) (h : CoV w x xa xc ka kc) :
    Calls Try.prog 19 #[coVal x xa xc ka kc] w (NotPost x w) :=
  (mkNot x xa ka xc kc w h).mono fun _ _ ⟨h1, h2, h3⟩ => ⟨_, h1, h2, h3⟩

def BothPost (q : Int) (x y : Co) (w : World) (r : Ending) (w' : World) : Prop :=
  ∃ b, r = .returned (.agg #[.int .i64 q, .slice none 0 0, .slice (some ⟨b, 0, none⟩) 2 2]) ∧ CoV w' (.mk q [] [x, y]) none 0 (some ⟨b, 0, none⟩) 2 ∧ Below w.heap.size w w'

theorem both_ex (q : Int) (x y : Co) (xa ka ya la : Option Addr) (xc kc yc lc : Nat) (w : World) (h : CoV w x xa xc ka kc) (k : CoV w y ya yc la lc) :
    Calls Try.prog 20 #[.int .i64 q, coVal x xa xc ka kc, coVal y ya yc la lc] w (BothPost q x y w) :=
  (mkBoth q x y xa ka ya la xc kc yc lc w h k).mono fun _ _ ⟨h1, h2, h3⟩ => ⟨_, h1, h2, h3⟩

theorem sizeC_is (c : Co) (hn : c.nodes ≤ 1099511627776) (xa ka : Option Addr) (xc kc : Nat) (w : World) (h : CoV w c xa xc ka kc) :
    Calls Try.prog 18 #[coVal c xa xc ka kc] w fun r w' => r = .returned (.int .i64 c.nodes) ∧ Below w.heap.size w w' :=
  sizeC_any c.nodes c (Nat.le_refl _) hn xa xc ka kc w h

theorem size_is (e : Ex) (hn : e.nodes ≤ 1099511627776) (xa : Option Addr) (xc : Nat) (w : World) (h : ExsV w e.a xa xc) :
    Calls Try.prog 15 #[exVal e xa xc] w fun r w' => r = .returned (.int .i64 e.nodes) ∧ Below w.heap.size w w' :=
  size_any e.nodes e (Nat.le_refl _) hn xa xc w h

theorem depthC_not (a : Co) : (depthC (.mk 5 [] [a]) : Int) = depthC a + 1 := by
  rw [depthC_eq]
  have h1 : partsA (.mk 5 [] [a]) = [] := rfl
  have h2 : partsC (.mk 5 [] [a]) = [a] := rfl
  rw [h1, h2]
  simp [maxN]

theorem depth_is {c : Co} {n : Int} (hq : (depthC c : Int) = n) (hn : c.nodes ≤ 1099511627776) (xa ka : Option Addr) (xc kc : Nat) (w : World) (h : CoV w c xa xc ka kc) :
    Calls Try.prog 21 #[coVal c xa xc ka kc] w fun r w' => r = .returned (.int .i64 n) ∧ Below w.heap.size w w' := by
  rw [← hq]; exact depthC_co c hn xa ka xc kc w h

/-- The cells of the two boxed conditions, and what else is kept. -/
structure Held (w w' : World) : Prop where
  k : Keeps w w'
  b : Below w.heap.size w w'

theorem Held.on {w w1 w2 : World} (h : Held w w1) (hb : Below w1.heap.size w1 w2) : Held w w2 := ⟨h.k.trans (keepsOf hb), h.b.trans (hb.mono h.b.size)⟩

theorem Held.alloc {w w1 : World} (h : Held w w1) (o : Obj) : Held w (w1.alloc o) := ⟨h.k.al o, h.b.alloc h.b.size o⟩
theorem Held.drew {w w1 : World} (h : Held w w1) : Held w w1.drew := ⟨h.k.drew, h.b.drew⟩

theorem not_lt_le (x y : Int) : decide (y ≤ x) = !(decide (x < y)) := by
  by_cases h : x < y
  · have : ¬ y ≤ x := by omega
    simp [h, this]
  · have : y ≤ x := by omega
    simp [h, this]

theorem le_two (vs : List Int) (x y : Ex) : holdsC vs [] (.mk 3 [x, y] []) = decide (evalE vs [] x ≤ evalE vs [] y) := by
  rw [holdsC_eq]; rfl

set_option maxRecDepth 100000 in
set_option maxHeartbeats 8000000 in
theorem cond_small (a b : Co) (xa ka ya la : Option Addr) (xc kc yc lc : Nat) (vs : List Int) (va : Option Addr) (vc : Nat) (w : World) (ha : CoV w a xa xc ka kc) (hb : CoV w b ya yc la lc) (hv : IntsV w vs va vc)
    (sa : a.nodes ≤ 200) (sb : b.nodes ≤ 200) (sv : vs.length ≤ 100) :
    Calls Try.prog 7 #[coVal a xa xc ka kc, coVal b ya yc la lc, .slice va vs.length vc] w fun e w' => e = .returned (.bool true) ∧ Below w.heap.size w w' := by
  have HA := Lib.hid ha
  have HB := Lib.hid hb
  have HV := Lib.hid hv
  clear ha hb hv
  have G0 : ∀ c X, holdsC vs [] c = X → holdsC vs [] (.mk 5 [] [c]) = !X := fun c X h => by rw [holdsC_eq]; simp [Co.op, Co.c, getC, h]
  have G6 : ∀ c d X Y, holdsC vs [] c = X → holdsC vs [] d = Y → holdsC vs [] (.mk 6 [] [c, d]) = (X && Y) := fun c d X Y h k => by rw [holdsC_eq]; simp [Co.op, Co.c, getC, h, k]
  have G7 : ∀ c d X Y, holdsC vs [] c = X → holdsC vs [] d = Y → holdsC vs [] (.mk 7 [] [c, d]) = (X || Y) := fun c d X Y h k => by rw [holdsC_eq]; simp [Co.op, Co.c, getC, h, k]
  generalize hX : holdsC vs [] a = X
  generalize hY : holdsC vs [] b = Y
  have E1 := Lib.hid hX
  have E2 := Lib.hid hY
  have E3 := Lib.hid (G0 a X hX)
  have E4 := Lib.hid (G0 b Y hY)
  have E5 := Lib.hid (G0 _ _ (G0 b Y hY))
  have E6 := Lib.hid (G6 a b X Y hX hY)
  have E7 := Lib.hid (G7 a b X Y hX hY)
  have E8 := Lib.hid (G0 _ _ (G6 a b X Y hX hY))
  have E9 := Lib.hid (G7 _ _ _ _ (G0 a X hX) (G0 b Y hY))
  have D1 := Lib.hid (depthC_not a)
  have hd : (depthC a : Int) ≤ 200 := by have := depthC_nodes a; omega
  have hd0 : 0 ≤ (depthC a : Int) := by omega
  have N1 : (Co.mk 5 [] [a]).nodes ≤ 1099511627776 := by simp [Co.nodes, Co.nodesL, Ex.nodesL]; omega
  generalize hD : (depthC a : Int) = d at hd hd0 D1
  have ED := Lib.hid hD
  clear hD
  clear hX hY G0 G6 G7
  have K1 : Hid (∀ w', Held w w' → Calls Try.prog 14 #[.agg #[.int .i64 a.op, .slice xa a.a.length xc, .slice ka a.c.length kc], .slice va vs.length vc, .slice none 0 0] w' fun r w2 => r = .returned (.bool X) ∧ Below w'.heap.size w' w2) :=
    Lib.hid fun w' h => holds_is E1.out va none vc 0 xa ka xc kc w' (HA.out.keep h.k) (HV.out.keep h.k) (IntsV.nil _)
  have K2 : Hid (∀ w', Held w w' → Calls Try.prog 14 #[.agg #[.int .i64 b.op, .slice ya b.a.length yc, .slice la b.c.length lc], .slice va vs.length vc, .slice none 0 0] w' fun r w2 => r = .returned (.bool Y) ∧ Below w'.heap.size w' w2) :=
    Lib.hid fun w' h => holds_is E2.out va none vc 0 ya la yc lc w' (HB.out.keep h.k) (HV.out.keep h.k) (IntsV.nil _)
  have KH : Hid (∀ (c : Co) (op : Int) (n : Nat) (z : Bool) (q : Nat) w', Held w w' → holdsC vs [] c = z → c.op = op → c.a = [] → c.c.length = n → CoV w' c none 0 (some ⟨q, 0, none⟩) n → Calls Try.prog 14 #[.agg #[.int .i64 op, .slice none 0 0, .slice (some ⟨q, 0, none⟩) n n], .slice va vs.length vc, .slice none 0 0] w' fun r w2 => r = .returned (.bool z) ∧ Below w'.heap.size w' w2) :=
    Lib.hid fun c op n z q w' h e e1 e2 e3 hc => by
      have := holds_is e va none vc 0 none (some ⟨q, 0, none⟩) 0 n w' hc (HV.out.keep h.k) (IntsV.nil _)
      unfold coVal at this
      rw [e1, e2, e3] at this
      exact this
  have KD : Hid (∀ w', Held w w' → Calls Try.prog 21 #[.agg #[.int .i64 a.op, .slice xa a.a.length xc, .slice ka a.c.length kc]] w' fun r w2 => r = .returned (.int .i64 d) ∧ Below w'.heap.size w' w2) :=
    Lib.hid fun w' h => depth_is (c := a) ED.out (by omega) xa ka xc kc w' (HA.out.keep h.k)
  have KN : Hid (∀ q w', CoV w' (.mk 5 [] [a]) none 0 (some ⟨q, 0, none⟩) 1 → Calls Try.prog 21 #[.agg #[.int .i64 5, .slice none 0 0, .slice (some ⟨q, 0, none⟩) 1 1]] w' fun r w2 => r = .returned (.int .i64 (d + 1)) ∧ Below w'.heap.size w' w2) :=
    Lib.hid fun q w' hc => depth_is D1.out N1 none (some ⟨q, 0, none⟩) 0 1 w' hc
  have KA : Hid (∀ w', Held w w' → Calls Try.prog 19 #[.agg #[.int .i64 a.op, .slice xa a.a.length xc, .slice ka a.c.length kc]] w' (NotPost a w')) :=
    Lib.hid fun w' h => not_ex a xa ka xc kc w' (HA.out.keep h.k)
  have KB : Hid (∀ w', Held w w' → Calls Try.prog 19 #[.agg #[.int .i64 b.op, .slice ya b.a.length yc, .slice la b.c.length lc]] w' (NotPost b w')) :=
    Lib.hid fun w' h => not_ex b ya la yc lc w' (HB.out.keep h.k)
  have KE : Hid (∀ w' q, Held w w' → Calls Try.prog 20 #[.int .i64 q, .agg #[.int .i64 a.op, .slice xa a.a.length xc, .slice ka a.c.length kc], .agg #[.int .i64 b.op, .slice ya b.a.length yc, .slice la b.c.length lc]] w' (BothPost q a b w')) :=
    Lib.hid fun w' q h => both_ex q a b xa ka ya la xc kc yc lc w' (HA.out.keep h.k) (HB.out.keep h.k)
  have KM : Hid (∀ (c : Co) (op : Int) (n q : Nat) w', c.op = op → c.a = [] → c.c.length = n → CoV w' c none 0 (some ⟨q, 0, none⟩) n → Calls Try.prog 19 #[.agg #[.int .i64 op, .slice none 0 0, .slice (some ⟨q, 0, none⟩) n n]] w' (NotPost c w')) :=
    Lib.hid fun c op n q w' e1 e2 e3 hc => by
      have := not_ex c none (some ⟨q, 0, none⟩) 0 n w' hc
      unfold coVal at this
      rw [e1, e2, e3] at this
      exact this
  have KO : Hid (∀ q r w', CoV w' (.mk 5 [] [a]) none 0 (some ⟨q, 0, none⟩) 1 → CoV w' (.mk 5 [] [b]) none 0 (some ⟨r, 0, none⟩) 1 → Calls Try.prog 20 #[.int .i64 7, .agg #[.int .i64 5, .slice none 0 0, .slice (some ⟨q, 0, none⟩) 1 1], .agg #[.int .i64 5, .slice none 0 0, .slice (some ⟨r, 0, none⟩) 1 1]] w' (BothPost 7 (.mk 5 [] [a]) (.mk 5 [] [b]) w')) :=
    Lib.hid fun q r w' h1 h2 => both_ex 7 (.mk 5 [] [a]) (.mk 5 [] [b]) none (some ⟨q, 0, none⟩) none (some ⟨r, 0, none⟩) 0 1 0 1 w' h1 h2
  have M6 := Lib.hid fun q w' => KM.out (.mk 6 [] [a, b]) 6 2 q w' rfl rfl rfl
  have H5 := Lib.hid fun q w' h => KH.out (.mk 5 [] [.mk 6 [] [a, b]]) 5 1 _ q w' h E8.out rfl rfl rfl
  have H7 := Lib.hid fun q w' h => KH.out (.mk 7 [] [.mk 5 [] [a], .mk 5 [] [b]]) 7 2 _ q w' h E9.out rfl rfl rfl
  have EL := Lib.hid (fun (hop : a.op = 2) (hlen : ¬ a.a.length < 2) => show holdsC vs [] (.mk 3 [a.a[1]'(by omega), a.a[0]'(by omega)] []) = !(holdsC vs [] a) by
    have g0 : getE a.a 0 = a.a[0]'(by omega) := by simp [getE, List.getElem?_eq_getElem (show 0 < a.a.length by omega)]
    have g1 : getE a.a 1 = a.a[1]'(by omega) := by simp [getE, List.getElem?_eq_getElem (show 1 < a.a.length by omega)]
    rw [le_two, holdsC_eq vs [] a, if_neg (by omega), if_pos hop, g0, g1]
    exact not_lt_le _ _)
  have KL : Hid (∀ (x y : Ex) (z : Bool) (q : Nat) w', Held w w' → holdsC vs [] (.mk 3 [x, y] []) = z → ExsV w' [x, y] (some ⟨q, 0, none⟩) 2 → Calls Try.prog 14 #[.agg #[.int .i64 3, .slice (some ⟨q, 0, none⟩) 2 2, .slice none 0 0], .slice va vs.length vc, .slice none 0 0] w' fun r w2 => r = .returned (.bool z) ∧ Below w'.heap.size w' w2) :=
    Lib.hid fun x y z q w' h e hx => holds_is e va none vc 0 (some ⟨q, 0, none⟩) none 2 0 w' ⟨hx, CosV.nilv _⟩ (HV.out.keep h.k) (IntsV.nil _)
  unfold coVal
  have hdw : (d + 1 != IntKind.i64.wrap (d + 1)) = false := by rw [IntWalk.i64_in _ (by omega)]; simp
  cases X <;> cases Y
  all_goals
    go_enter Try.func7, Try.ntmps7
    go_wp2_with fail
    refine (examples_true _).mono ?_
    rintro r w1 ⟨rfl, hb1⟩
    have H := Held.mk ((Keeps.alloc w _).trans ((Keeps.alloc _ _).trans (keepsOf hb1))) ((((Below.refl w.heap.size w).alloc (Nat.le_refl _) _).alloc (by simp) _).trans (hb1.mono (by simp; omega)))
    have c0 := keepsOf hb1 ⟨w.heap.size, 0, none⟩ (.int .i64 a.op) (by go_simp)
    have c1 := keepsOf hb1 ⟨w.heap.size, 1, none⟩ (.slice xa a.a.length xc) (by go_simp)
    have c2 := keepsOf hb1 ⟨w.heap.size, 2, none⟩ (.slice ka a.c.length kc) (by go_simp)
    have c3 := keepsOf hb1 ⟨w.heap.size + 1, 0, none⟩ (.int .i64 b.op) (by go_simp)
    have c4 := keepsOf hb1 ⟨w.heap.size + 1, 1, none⟩ (.slice ya b.a.length yc) (by go_simp)
    have c5 := keepsOf hb1 ⟨w.heap.size + 1, 2, none⟩ (.slice la b.c.length lc) (by go_simp)
    clear hb1
    go_wp2_with fail
    refine (sizeC_is a (by omega) xa ka xc kc _ (HA.out.keep H.k)).mono ?_
    rintro r w2 ⟨rfl, hb⟩
    have H := H.on hb
    have c0 := keepsOf hb _ _ c0
    have c1 := keepsOf hb _ _ c1
    have c2 := keepsOf hb _ _ c2
    have c3 := keepsOf hb _ _ c3
    have c4 := keepsOf hb _ _ c4
    have c5 := keepsOf hb _ _ c5
    clear hb
    go_wp2_with fail
    refine (sizeC_is b (by omega) ya la yc lc _ (HB.out.keep H.k)).mono ?_
    rintro r w3 ⟨rfl, hb⟩
    have H := H.on hb
    have c0 := keepsOf hb _ _ c0
    have c1 := keepsOf hb _ _ c1
    have c2 := keepsOf hb _ _ c2
    have c3 := keepsOf hb _ _ c3
    have c4 := keepsOf hb _ _ c4
    have c5 := keepsOf hb _ _ c5
    clear hb
    go_wp2_with fail
    go_region_held3 (fun w' => w'.cell? ⟨w.heap.size, 0, none⟩ = some (.int .i64 a.op) ∧ w'.cell? ⟨w.heap.size, 1, none⟩ = some (.slice xa a.a.length xc) ∧ w'.cell? ⟨w.heap.size, 2, none⟩ = some (.slice ka a.c.length kc) ∧ w'.cell? ⟨w.heap.size + 1, 0, none⟩ = some (.int .i64 b.op) ∧ w'.cell? ⟨w.heap.size + 1, 1, none⟩ = some (.slice ya b.a.length yc) ∧ w'.cell? ⟨w.heap.size + 1, 2, none⟩ = some (.slice la b.c.length lc) ∧ Held w w')
    (first | (have hh := ‹World.cell? _ ⟨w.heap.size, 0, none⟩ = _ ∧ _ ∧ _ ∧ _ ∧ _ ∧ _ ∧ Held w _›; exact ⟨(keepsOf hb) _ _ hh.1, (keepsOf hb) _ _ hh.2.1, (keepsOf hb) _ _ hh.2.2.1, (keepsOf hb) _ _ hh.2.2.2.1, (keepsOf hb) _ _ hh.2.2.2.2.1, (keepsOf hb) _ _ hh.2.2.2.2.2.1, hh.2.2.2.2.2.2.on hb⟩) | exact ⟨c0, c1, c2, c3, c4, c5, H.k.drew, H.b.drew⟩ | go_keep)
    (first | (go_at_call 14; (with_reducible_and_instances refine (K1.out _ (‹World.cell? _ ⟨w.heap.size, 0, none⟩ = _ ∧ _ ∧ _ ∧ _ ∧ _ ∧ _ ∧ Held w _›.2.2.2.2.2.2)).mono ?_); rintro r w4 ⟨rfl, hb⟩)
           | (go_at_call 14; (with_reducible_and_instances refine (K2.out _ (‹World.cell? _ ⟨w.heap.size, 0, none⟩ = _ ∧ _ ∧ _ ∧ _ ∧ _ ∧ _ ∧ Held w _›.2.2.2.2.2.2)).mono ?_); rintro r w4 ⟨rfl, hb⟩))
    obtain ⟨c0, c1, c2, c3, c4, c5, H⟩ := ‹World.cell? _ ⟨w.heap.size, 0, none⟩ = _ ∧ _ ∧ _ ∧ _ ∧ _ ∧ _ ∧ Held w _›
    go_wp2_with fail
    refine (KA.out _ H).mono ?_
    rintro r w5 ⟨q1, rfl, h1, hb⟩
    have H := H.on hb
    have c0 := keepsOf hb _ _ c0
    have c1 := keepsOf hb _ _ c1
    have c2 := keepsOf hb _ _ c2
    have c3 := keepsOf hb _ _ c3
    have c4 := keepsOf hb _ _ c4
    have c5 := keepsOf hb _ _ c5
    clear hb
    go_wp2_with fail
    refine (KH.out (.mk 5 [] [a]) 5 1 _ q1 _ H E3.out rfl rfl rfl h1).mono ?_
    rintro r w6 ⟨rfl, hb⟩
    have H := H.on hb
    have c0 := keepsOf hb _ _ c0
    have c1 := keepsOf hb _ _ c1
    have c2 := keepsOf hb _ _ c2
    have c3 := keepsOf hb _ _ c3
    have c4 := keepsOf hb _ _ c4
    have c5 := keepsOf hb _ _ c5
    clear hb
    go_wp2_with fail
    refine (KB.out _ H).mono ?_
    rintro r w7 ⟨q2, rfl, h2, hb⟩
    have H := H.on hb
    have c0 := keepsOf hb _ _ c0
    have c1 := keepsOf hb _ _ c1
    have c2 := keepsOf hb _ _ c2
    have c3 := keepsOf hb _ _ c3
    have c4 := keepsOf hb _ _ c4
    have c5 := keepsOf hb _ _ c5
    clear hb
    go_wp2_with fail
    refine (KM.out (.mk 5 [] [b]) 5 1 q2 _ rfl rfl rfl h2).mono ?_
    rintro r w8 ⟨q3, rfl, h3, hb⟩
    have H := H.on hb
    have c0 := keepsOf hb _ _ c0
    have c1 := keepsOf hb _ _ c1
    have c2 := keepsOf hb _ _ c2
    have c3 := keepsOf hb _ _ c3
    have c4 := keepsOf hb _ _ c4
    have c5 := keepsOf hb _ _ c5
    clear hb
    go_wp2_with fail
    refine (KH.out (.mk 5 [] [.mk 5 [] [b]]) 5 1 _ q3 _ H E5.out rfl rfl rfl h3).mono ?_
    rintro r w9 ⟨rfl, hb⟩
    have H := H.on hb
    have c0 := keepsOf hb _ _ c0
    have c1 := keepsOf hb _ _ c1
    have c2 := keepsOf hb _ _ c2
    have c3 := keepsOf hb _ _ c3
    have c4 := keepsOf hb _ _ c4
    have c5 := keepsOf hb _ _ c5
    clear hb
    go_wp2_with fail
    refine (KE.out _ 6 H).mono ?_
    rintro r w10 ⟨q4, rfl, h4, hb⟩
    have H := H.on hb
    have c0 := keepsOf hb _ _ c0
    have c1 := keepsOf hb _ _ c1
    have c2 := keepsOf hb _ _ c2
    have c3 := keepsOf hb _ _ c3
    have c4 := keepsOf hb _ _ c4
    have c5 := keepsOf hb _ _ c5
    clear hb
    go_wp2_with fail
    refine (KH.out (.mk 6 [] [a, b]) 6 2 _ q4 _ H E6.out rfl rfl rfl h4).mono ?_
    rintro r w11 ⟨rfl, hb⟩
    have H := H.on hb
    have c0 := keepsOf hb _ _ c0
    have c1 := keepsOf hb _ _ c1
    have c2 := keepsOf hb _ _ c2
    have c3 := keepsOf hb _ _ c3
    have c4 := keepsOf hb _ _ c4
    have c5 := keepsOf hb _ _ c5
    clear hb
    go_wp2_with fail
    refine (KE.out _ 7 H).mono ?_
    rintro r w12 ⟨q5, rfl, h5, hb⟩
    have H := H.on hb
    have c0 := keepsOf hb _ _ c0
    have c1 := keepsOf hb _ _ c1
    have c2 := keepsOf hb _ _ c2
    have c3 := keepsOf hb _ _ c3
    have c4 := keepsOf hb _ _ c4
    have c5 := keepsOf hb _ _ c5
    clear hb
    go_wp2_with fail
    refine (KH.out (.mk 7 [] [a, b]) 7 2 _ q5 _ H E7.out rfl rfl rfl h5).mono ?_
    rintro r w13 ⟨rfl, hb⟩
    have H := H.on hb
    have c0 := keepsOf hb _ _ c0
    have c1 := keepsOf hb _ _ c1
    have c2 := keepsOf hb _ _ c2
    have c3 := keepsOf hb _ _ c3
    have c4 := keepsOf hb _ _ c4
    have c5 := keepsOf hb _ _ c5
    clear hb
    go_wp2_with fail
    go_region_held3 (fun w' => w'.cell? ⟨w.heap.size, 0, none⟩ = some (.int .i64 a.op) ∧ w'.cell? ⟨w.heap.size, 1, none⟩ = some (.slice xa a.a.length xc) ∧ w'.cell? ⟨w.heap.size, 2, none⟩ = some (.slice ka a.c.length kc) ∧ w'.cell? ⟨w.heap.size + 1, 0, none⟩ = some (.int .i64 b.op) ∧ w'.cell? ⟨w.heap.size + 1, 1, none⟩ = some (.slice ya b.a.length yc) ∧ w'.cell? ⟨w.heap.size + 1, 2, none⟩ = some (.slice la b.c.length lc) ∧ Held w w')
    (first | (have hh := ‹World.cell? _ ⟨w.heap.size, 0, none⟩ = _ ∧ _ ∧ _ ∧ _ ∧ _ ∧ _ ∧ Held w _›; exact ⟨(keepsOf hb) _ _ hh.1, (keepsOf hb) _ _ hh.2.1, (keepsOf hb) _ _ hh.2.2.1, (keepsOf hb) _ _ hh.2.2.2.1, (keepsOf hb) _ _ hh.2.2.2.2.1, (keepsOf hb) _ _ hh.2.2.2.2.2.1, hh.2.2.2.2.2.2.on hb⟩) | exact ⟨c0, c1, c2, c3, c4, c5, H.k.drew, H.b.drew⟩ | go_keep)
    (first | (go_at_call 20; (with_reducible_and_instances refine (KE.out _ 6 (‹World.cell? _ ⟨w.heap.size, 0, none⟩ = _ ∧ _ ∧ _ ∧ _ ∧ _ ∧ _ ∧ Held w _›.2.2.2.2.2.2)).mono ?_); rintro r w20 ⟨q4, rfl, h4, hb⟩)
           | (go_at_call 19; (with_reducible_and_instances refine (M6.out q4 _ h4).mono ?_); rintro r w20 ⟨q7, rfl, h7, hb⟩)
           | (go_at_call 14; (with_reducible_and_instances refine (H5.out q7 _ (‹World.cell? _ ⟨w.heap.size, 0, none⟩ = _ ∧ _ ∧ _ ∧ _ ∧ _ ∧ _ ∧ Held w _›.2.2.2.2.2.2) h7).mono ?_); rintro r w20 ⟨rfl, hb⟩)
           | (go_at_call 19; (with_reducible_and_instances refine (KA.out _ (‹World.cell? _ ⟨w.heap.size, 0, none⟩ = _ ∧ _ ∧ _ ∧ _ ∧ _ ∧ _ ∧ Held w _›.2.2.2.2.2.2)).mono ?_); rintro r w20 ⟨q8, rfl, h8, hb⟩)
           | (go_at_call 19; (with_reducible_and_instances refine (KB.out _ (‹World.cell? _ ⟨w.heap.size, 0, none⟩ = _ ∧ _ ∧ _ ∧ _ ∧ _ ∧ _ ∧ Held w _›.2.2.2.2.2.2)).mono ?_); rintro r w20 ⟨q9, rfl, h9, hb9⟩; have hb := hb9)
           | (go_at_call 20; (with_reducible_and_instances refine (KO.out q8 q9 _ (h8.keep (keepsOf hb9)) h9).mono ?_); rintro r w20 ⟨q10, rfl, h10, hb⟩)
           | (go_at_call 14; (with_reducible_and_instances refine (H7.out q10 _ (‹World.cell? _ ⟨w.heap.size, 0, none⟩ = _ ∧ _ ∧ _ ∧ _ ∧ _ ∧ _ ∧ Held w _›.2.2.2.2.2.2) h10).mono ?_); rintro r w20 ⟨rfl, hb⟩)
           | (go_at_call 21; (with_reducible_and_instances refine (KN.out q8 _ h8).mono ?_); rintro r w20 ⟨rfl, hb⟩)
           | (go_at_call 21; (with_reducible_and_instances refine (KD.out _ (‹World.cell? _ ⟨w.heap.size, 0, none⟩ = _ ∧ _ ∧ _ ∧ _ ∧ _ ∧ _ ∧ Held w _›.2.2.2.2.2.2)).mono ?_); rintro r w20 ⟨rfl, hb⟩))
    obtain ⟨c0, c1, c2, c3, c4, c5, H⟩ := ‹World.cell? _ ⟨w.heap.size, 0, none⟩ = _ ∧ _ ∧ _ ∧ _ ∧ _ ∧ _ ∧ Held w _›
    by_cases hop : a.op = 2
    · have hop1 : (a.op != 2) = false := by simp [hop]
      by_cases hlen : a.a.length < 2
      · have hlen1 : ((a.a.length : Int) < 2) := by omega
        clear hop
        go_wp2_with fail
        go_ret
        exact ⟨rfl, H.b⟩
      · have hlen1 : ¬ ((a.a.length : Int) < 2) := by omega
        have hE := EL.out hop hlen
        rw [E1.out] at hE
        have HE := Lib.hid hE
        have hA := HA.out.a.keep H.k
        have hmax := hA.cap_le
        obtain ⟨eb, eo, za, zc, hq, ⟨e0, e1, e2, e3⟩, k0⟩ := hA.elem 0 (by omega)
        obtain ⟨eb', eo', za', zc', hq', ⟨f0, f1, f2, f3⟩, k1⟩ := hA.elem 1 (by omega)
        subst hq
        obtain ⟨rfl, rfl⟩ : eb = eb' ∧ eo = eo' := by simpa using hq'
        generalize a.a[0]'(by omega) = x0 at *
        generalize a.a[1]'(by omega) = x1 at *
        have Hk0 := Lib.hid k0
        have Hk1 := Lib.hid k1
        simp only [Nat.zero_mul, Nat.one_mul, Nat.add_zero] at e0 e1 e2 e3 f0 f1 f2 f3
        have n0 : 0 < a.a.length := by omega
        have n1 : 1 < a.a.length := by omega
        have lb := World.block_lt_of_cell? _ _ c1
        have le := World.block_lt_of_cell? _ _ e0
        have lf := World.block_lt_of_cell? _ _ f0
        simp only at lb le lf
        clear hop hE hA k0 k1 hlen
        have l1 : (1 : Int) < (a.a.length : Int) := by omega
        have l0 : (0 : Int) < (a.a.length : Int) := by omega
        go_wp2_with fail
        trace "F"
        go_region
        all_goals
          trace "G"
          go_wp2_with fail
          trace "H"
          refine (KL.out x1 x0 _ _ _ ((H.alloc _).alloc _).drew HE.out (exsV_two ⟨by go_simp, by go_simp, by go_simp, by go_simp⟩ ⟨by go_simp, by go_simp, by go_simp, by go_simp⟩ ((Hk1.out.keep ((Keeps.alloc _ _).trans (Keeps.alloc _ _)).drew)) ((Hk0.out.keep ((Keeps.alloc _ _).trans (Keeps.alloc _ _)).drew)))).mono ?_
          trace "I"
          rintro r w30 ⟨rfl, hb⟩
          have hf := (((H.alloc _).alloc _).drew).on hb
          go_wp2_with fail
          go_ret
          exact ⟨rfl, hf.b⟩
    · have hop1 : (a.op != 2) = true := by simp [hop]
      clear hop
      go_wp2_with fail
      go_ret
      exact ⟨rfl, H.b⟩

end Go.Proofs.Ytfhfdenmcneamaa
