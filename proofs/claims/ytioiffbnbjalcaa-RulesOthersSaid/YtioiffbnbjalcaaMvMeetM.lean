/- What two sets have in common. No program. -/
import Derived.Test.YtioiffbnbjalcaaMvWid
set_option linter.unusedVariables false
set_option linter.unusedSimpArgs false
namespace Go.Proofs.Ytioiffbnbjalcaa
open Go.RowKit

def Both (a b : Ab) (v : Int) : Prop := InS a v ∧ InS b v
structure IsMeet (a b : Ab) (k : Int) (m : Ab) : Prop where
  good : Good m
  mem : ∀ v, InS m v ↔ Both a b v
  mask : m.k = k
theorem good_eq {a b : Ab} (ha : Good a) (hb : Good b) (h : ∀ v, InS a v ↔ InS b v) (hk : a.k = b.k) : a = b :=
  leq_anti ha hb (leq_incl ha hb (fun v => (h v).1) (by rw [hk]; exact sub_self _)) (leq_incl hb ha (fun v => (h v).2) (by rw [hk]; exact sub_self _))
theorem IsMeet.uniq {a b m m' : Ab} {k : Int} (h : IsMeet a b k m) (h' : IsMeet a b k m') : m = m' :=
  good_eq h.good h'.good (fun v => (h.mem v).trans (h'.mem v).symm) (h.mask.trans h'.mask.symm)
theorem both_comm {a b : Ab} (v : Int) : Both a b v ↔ Both b a v := And.comm
theorem IsMeet.comm {a b m : Ab} {k : Int} (h : IsMeet a b k m) : IsMeet b a k m := ⟨h.good, fun v => (h.mem v).trans (both_comm v), h.mask⟩
open Classical in
noncomputable def meetI (a b : Ab) : Bool := decide (∃ v, Both a b v)
def abZ : Ab := ⟨0, 0, 0, 0, 0⟩
open Classical in
noncomputable def meetK (a b : Ab) (k : Int) : Ab := if h : ∃ m, IsMeet a b k m then Classical.choose h else abZ
open Classical in
theorem meet_yes {a b m : Ab} {k : Int} (h : IsMeet a b k m) : meetK a b k = m ∧ meetI a b = true := by
  constructor
  · have hx : ∃ m, IsMeet a b k m := ⟨m, h⟩
    unfold meetK
    rw [dif_pos hx]
    exact (Classical.choose_spec hx).uniq h
  · unfold meetI
    exact decide_eq_true ⟨m.lo, (h.mem _).1 (lo_in h.good)⟩
open Classical in
theorem meet_no {a b : Ab} (k : Int) (h : ∀ v, ¬ Both a b v) : meetK a b k = abZ ∧ meetI a b = false := by
  constructor
  · unfold meetK
    rw [dif_neg]
    rintro ⟨m, hm⟩
    exact h _ ((hm.mem _).1 (lo_in hm.good))
  · unfold meetI
    exact decide_eq_false (fun ⟨v, hv⟩ => h v hv)
open Classical in
theorem meetI_true {a b : Ab} : meetI a b = true ↔ ∃ v, Both a b v := by unfold meetI; rw [decide_eq_true_iff]
theorem meetI_comm (a b : Ab) : meetI a b = meetI b a := by
  rw [Bool.eq_iff_iff, meetI_true, meetI_true]
  exact ⟨fun ⟨v, h⟩ => ⟨v, h.2, h.1⟩, fun ⟨v, h⟩ => ⟨v, h.2, h.1⟩⟩
theorem meetK_comm (a b : Ab) (k : Int) : meetK a b k = meetK b a k := by
  by_cases h : ∃ m, IsMeet a b k m
  · obtain ⟨m, hm⟩ := h
    rw [(meet_yes hm).1, (meet_yes hm.comm).1]
  · have h' : ¬ ∃ m, IsMeet b a k m := fun ⟨m, hm⟩ => h ⟨m, hm.comm⟩
    unfold meetK
    rw [dif_neg h, dif_neg h']

/-- The common step. -/
def lcmS (a b : Ab) : Int := (Int.lcm (stepS a) (stepS b) : Int)
theorem lcm_dvd {x y z : Int} : ((Int.lcm x y : Nat) : Int) ∣ z ↔ x ∣ z ∧ y ∣ z :=
  ⟨fun h => ⟨Int.dvd_trans (Int.dvd_lcm_left ..) h, Int.dvd_trans (Int.dvd_lcm_right ..) h⟩, fun h => Int.ofNat_dvd_left.2 (Nat.lcm_dvd (Int.natAbs_dvd_natAbs.2 h.1) (Int.natAbs_dvd_natAbs.2 h.2))⟩
theorem dvd_shift {s x y z : Int} (h : s ∣ x - z) : s ∣ y - z ↔ s ∣ y - x := by
  constructor
  · intro k
    have := Int.dvd_sub k h
    rwa [show y - z - (x - z) = y - x by omega] at this
  · intro k
    have := Int.dvd_add k h
    rwa [show y - x + (x - z) = y - z by omega] at this
theorem both_iff {a b : Ab} (ha : Good a) (hb : Good b) {u : Int} (hu : Both a b u) (v : Int) : Both a b v ↔ max a.lo b.lo ≤ v ∧ v ≤ min a.hi b.hi ∧ lcmS a b ∣ v - u := by
  obtain ⟨h1, h2⟩ := hu
  rw [inS_iff ha] at h1
  rw [inS_iff hb] at h2
  unfold Both lcmS
  rw [inS_iff ha, inS_iff hb, lcm_dvd, dvd_shift h1.2.2, dvd_shift h2.2.2]
  constructor
  · rintro ⟨⟨a1, a2, a3⟩, b1, b2, b3⟩; exact ⟨by omega, by omega, a3, b3⟩
  · rintro ⟨a1, a2, a3, b3⟩; exact ⟨⟨by omega, by omega, a3⟩, by omega, by omega, b3⟩
theorem lcmS_nonneg (a b : Ab) : 0 ≤ lcmS a b := by unfold lcmS; omega
/-- All that is like u, from lo on, up to hi. -/
def apS (u L lo hi k : Int) : Ab := if L = 0 then byS u u 0 k else likeS u L lo hi k
theorem ap_ok {u L lo hi k : Int} (hL : 0 ≤ L) (h1 : lo ≤ u) (h2 : u ≤ hi) (h3 : -2147483648 ≤ lo) (h4 : hi ≤ 2147483647) (hk : Mk k) :
    Good (apS u L lo hi k) ∧ (∀ v, InS (apS u L lo hi k) v ↔ lo ≤ v ∧ v ≤ hi ∧ L ∣ v - u) ∧ (apS u L lo hi k).k = k := by
  unfold apS
  split
  · rename_i h0
    subst h0
    refine ⟨by_good (by omega) (Int.le_refl _) (by omega) (by omega) hk, fun v => ?_, by_k ..⟩
    rw [by_in (Int.le_refl _) (.inr ⟨rfl, rfl⟩)]
    constructor
    · rintro ⟨a, b, c⟩; exact ⟨by omega, by omega, c⟩
    · rintro ⟨a, b, c⟩
      have := Int.zero_dvd.1 c
      exact ⟨by omega, by omega, c⟩
  · rename_i h0
    have hp : 0 < L := by omega
    have hf : lo + (u - lo) % L ≤ hi := by
      have := emod_le (u - lo) L (by omega); omega
    exact ⟨like_good hp h3 hf h4 hk, fun v => like_in hp hf v, by unfold likeS; exact by_k ..⟩
theorem ap_meet {a b : Ab} (ha : Good a) (hb : Good b) {u k : Int} (hu : Both a b u) (hk : Mk k) : IsMeet a b k (apS u (lcmS a b) (max a.lo b.lo) (min a.hi b.hi) k) := by
  have h1 := ha.h1
  have h3 := ha.h3
  have := (both_iff ha hb hu u).1 hu
  obtain ⟨g, m, e⟩ := ap_ok (lcmS_nonneg a b) this.1 this.2.1 (by omega) (by omega) hk
  exact ⟨g, fun v => (m v).trans (both_iff ha hb hu v).symm, e⟩
theorem meet_ok {a b : Ab} (ha : Good a) (hb : Good b) {k : Int} (hk : Mk k) (h : meetI a b = true) : IsMeet a b k (meetK a b k) := by
  obtain ⟨u, hu⟩ := meetI_true.1 h
  have := ap_meet ha hb hu hk
  rw [(meet_yes this).1]; exact this
theorem one_in (v k u : Int) : InS (byS v v 0 k) u ↔ u = v := by
  rw [by_in (Int.le_refl _) (.inr ⟨rfl, rfl⟩)]
  constructor
  · rintro ⟨a, b, c⟩; omega
  · rintro rfl; exact ⟨Int.le_refl _, Int.le_refl _, by rw [Int.sub_self]; exact Int.dvd_zero _⟩

/-! ### Some values, one after the other -/

/-- What was found below v. -/
structure Found (a b : Ab) (k v : Int) (out : Ab) : Prop where
  good : Good out
  mem : ∀ u, InS out u ↔ Both a b u ∧ u < v
  mask : out.k = k
/-- v is a place of a, or behind its end. -/
def Place (a : Ab) (v : Int) : Prop := a.lo ≤ v ∧ a.m ∣ v - a.lo ∧ v ≤ a.hi + a.m
theorem place_zero {a : Ab} (ha : Good a) : Place a a.lo := ⟨Int.le_refl _, by rw [Int.sub_self]; exact Int.dvd_zero _, by have := ha.h2; have := ha.h6; omega⟩
theorem place_next {a : Ab} {v : Int} (ha : Good a) (h : Place a v) (hv : v ≤ a.hi) : Place a (v + a.m) := by
  obtain ⟨h1, h2, h3⟩ := h
  have := ha.h6
  refine ⟨by omega, ?_, by omega⟩
  have := Int.dvd_add h2 (Int.dvd_refl a.m)
  rwa [show v - a.lo + a.m = v + a.m - a.lo by omega] at this
theorem place_in {a : Ab} {v : Int} (h : Place a v) (hv : v ≤ a.hi) : InS a v := ⟨h.1, hv, Int.emod_eq_zero_of_dvd h.2.1⟩
theorem place_gap {a : Ab} {v u : Int} (ha : Good a) (h : Place a v) (hu : InS a u) (h1 : v ≤ u) (h2 : u < v + a.m) : u = v := by
  obtain ⟨a1, a2, a3⟩ := hu
  have hd := Int.dvd_sub (Int.dvd_of_emod_eq_zero a3) h.2.1
  rw [show u - a.lo - (v - a.lo) = u - v by omega] at hd
  by_cases h0 : u - v = 0
  · omega
  · have := Int.le_of_dvd (by omega) hd; omega
theorem found_end {a b : Ab} {v : Int} (h : Place a v) (hv : ¬ v ≤ a.hi) (u : Int) (hu : Both a b u) : u < v := by
  have := hu.1.2.1; omega
theorem found_skip {a b : Ab} {k v : Int} {out : Ab} (ha : Good a) (hp : Place a v) (h : Found a b k v out) (hv : ¬ InS b v) : Found a b k (v + a.m) out :=
  ⟨h.good, fun u => (h.mem u).trans ⟨fun ⟨x, y⟩ => ⟨x, by have := ha.h6; omega⟩, fun ⟨x, y⟩ => ⟨x, by
    by_cases hu : u < v
    · exact hu
    · have := place_gap ha hp x.1 (by omega) y
      subst this; exact absurd x.2 hv⟩⟩, h.mask⟩
theorem none_skip {a b : Ab} {v : Int} (ha : Good a) (hp : Place a v) (h : ∀ u, u < v → ¬ Both a b u) (hv : ¬ InS b v) : ∀ u, u < v + a.m → ¬ Both a b u := fun u hu hb => by
  by_cases h1 : u < v
  · exact h u h1 hb
  · have := place_gap ha hp hb.1 (by omega) hu
    subst this; exact hv hb.2
theorem found_first {a b : Ab} {k v : Int} (ha : Good a) (hb : Good b) (hk : Mk k) (hp : Place a v) (hv : v ≤ a.hi) (h : ∀ u, u < v → ¬ Both a b u) (hin : InS b v) : Found a b k (v + a.m) (byS v v 0 k) := by
  have hva := place_in hp hv
  have h1 := ha.h1
  have h3 := ha.h3
  have h6 := ha.h6
  refine ⟨by_good (by have := hp.1; omega) (Int.le_refl _) (by omega) (by omega) hk, fun u => ?_, by_k ..⟩
  rw [one_in]
  constructor
  · rintro rfl; exact ⟨⟨hva, hin⟩, by omega⟩
  · rintro ⟨x, y⟩
    by_cases h1 : u < v
    · exact absurd x (h u h1)
    · exact place_gap ha hp x.1 (by omega) y
theorem one_good {a : Ab} {v k : Int} (ha : Good a) (hp : Place a v) (hv : v ≤ a.hi) (hk : Mk k) : Good (byS v v 0 k) :=
  by_good (by have := hp.1; have := ha.h1; omega) (Int.le_refl _) (by have := ha.h3; omega) (by omega) hk
theorem join_least {a b c : Ab} (ha : Good a) (hb : Good b) (hc : Good c) (h1 : joinS a c = c) (h2 : joinS b c = c) : joinS (joinS a b) c = c := by rw [join_assoc ha hb hc, h2, h1]
theorem found_next {a b : Ab} {k v : Int} {out : Ab} (ha : Good a) (hb : Good b) (hk : Mk k) (hp : Place a v) (hv : v ≤ a.hi) (h : Found a b k v out) (hin : InS b v) : Found a b k (v + a.m) (joinS out (byS v v 0 k)) := by
  have hva := place_in hp hv
  have h1 := ha.h1
  have h3 := ha.h3
  have h6 := ha.h6
  have hbv : Both a b v := ⟨hva, hin⟩
  have hbr := (both_iff ha hb hbv v).1 hbv
  have hone : Good (byS v v 0 k) := by_good (by have := hp.1; omega) (Int.le_refl _) (by omega) (by omega) hk
  obtain ⟨wg, wm, wk⟩ := ap_ok (u := v) (hi := v) (k := k) (lcmS_nonneg a b) hbr.1 (Int.le_refl _) (by omega) (by omega) hk
  have l1 : joinS out (apS v (lcmS a b) (max a.lo b.lo) v k) = apS v (lcmS a b) (max a.lo b.lo) v k := leq_incl h.good wg (fun u hu => (wm u).2 (by
    obtain ⟨x, y⟩ := (h.mem u).1 hu
    have := (both_iff ha hb hbv u).1 x
    exact ⟨this.1, by omega, this.2.2⟩)) (by rw [h.mask, wk]; exact sub_self _)
  have l2 : joinS (byS v v 0 k) (apS v (lcmS a b) (max a.lo b.lo) v k) = apS v (lcmS a b) (max a.lo b.lo) v k := leq_incl hone wg (fun u hu => (wm u).2 (by
    rw [one_in] at hu
    subst hu
    exact ⟨hbr.1, Int.le_refl _, hbr.2.2⟩)) (by rw [by_k, wk]; exact sub_self _)
  have l3 := join_least h.good hone wg l1 l2
  have hj := join_good h.good hone
  refine ⟨hj, fun u => ⟨fun hu => ?_, fun ⟨x, y⟩ => ?_⟩, ?_⟩
  · have := (wm u).1 (leq_in hj wg l3 hu)
    exact ⟨(both_iff ha hb hbv u).2 ⟨this.1, by have := hbr.2.1; omega, this.2.2⟩, by omega⟩
  · by_cases hu : u < v
    · exact leq_in h.good hj (join_le1 h.good hone) ((h.mem u).2 ⟨x, hu⟩)
    · have := place_gap ha hp x.1 (by omega) y
      subst this
      exact leq_in hone hj (join_le2 h.good hone) ((one_in ..).2 rfl)
  · rw [(join_parts h.good hone).2.2.2.2, h.mask, by_k, orS_self hk]
theorem found_meet {a b : Ab} {k v : Int} {out : Ab} (h : Found a b k v out) (hp : Place a v) (hv : ¬ v ≤ a.hi) : IsMeet a b k out :=
  ⟨h.good, fun u => (h.mem u).trans ⟨fun x => x.1, fun x => ⟨x, found_end hp hv u x⟩⟩, h.mask⟩

/-! ### The same by the reference -/

/-- All values below v, in order. -/
structure Listed (a b : Ab) (v : Int) (l : List Int) : Prop where
  sorted : l.Pairwise (· < ·)
  mem : ∀ u, u ∈ l ↔ Both a b u ∧ u < v
theorem listed_skip {a b : Ab} {v : Int} {l : List Int} (ha : Good a) (hp : Place a v) (h : Listed a b v l) (hv : ¬ InS b v) : Listed a b (v + a.m) l :=
  ⟨h.sorted, fun u => (h.mem u).trans ⟨fun ⟨x, y⟩ => ⟨x, by have := ha.h6; omega⟩, fun ⟨x, y⟩ => ⟨x, by
    by_cases hu : u < v
    · exact hu
    · have := place_gap ha hp x.1 (by omega) y
      subst this; exact absurd x.2 hv⟩⟩⟩
theorem listed_next {a b : Ab} {v : Int} {l : List Int} (ha : Good a) (hp : Place a v) (hv : v ≤ a.hi) (h : Listed a b v l) (hin : InS b v) : Listed a b (v + a.m) (l ++ [v]) := by
  have h6 := ha.h6
  refine ⟨List.pairwise_append.2 ⟨h.sorted, List.pairwise_singleton _ _, fun x hx y hy => ?_⟩, fun u => ?_⟩
  · simp at hy; subst hy; exact ((h.mem x).1 hx).2
  · rw [List.mem_append, List.mem_singleton, h.mem]
    constructor
    · rintro (⟨x, y⟩ | rfl)
      · exact ⟨x, by omega⟩
      · exact ⟨⟨place_in hp hv, hin⟩, by omega⟩
    · rintro ⟨x, y⟩
      by_cases hu : u < v
      · exact .inl ⟨x, hu⟩
      · exact .inr (place_gap ha hp x.1 (by omega) y)
theorem sorted_lt {l : List Int} (h : l.Pairwise (· < ·)) {i j : Nat} (hij : i < j) (hj : j < l.length) : l.getD i 0 < l.getD j 0 := by
  rw [List.getD_eq_getElem?_getD, List.getD_eq_getElem?_getD, List.getElem?_eq_getElem hj, List.getElem?_eq_getElem (by omega)]
  exact List.pairwise_iff_getElem.1 h i j (by omega) hj hij
theorem getD_memI {l : List Int} {i : Nat} (h : i < l.length) : l.getD i 0 ∈ l := by
  rw [List.getD_eq_getElem?_getD, List.getElem?_eq_getElem h]; exact List.getElem_mem h
theorem mem_getD {l : List Int} {u : Int} (h : u ∈ l) : ∃ i, i < l.length ∧ l.getD i 0 = u := by
  obtain ⟨i, hi, rfl⟩ := List.getElem_of_mem h
  exact ⟨i, hi, by rw [List.getD_eq_getElem?_getD, List.getElem?_eq_getElem hi]; rfl⟩
theorem listed_meet {a b : Ab} {k v d : Int} {l : List Int} {n : Nat} (ha : Good a) (hb : Good b) (hk : Mk k) (h : Listed a b v l) (hp : Place a v) (hv : ¬ v ≤ a.hi) (hn : l.length = n + 1) (hd : d = if n = 0 then 0 else l.getD 1 0 - l.getD 0 0) :
    IsMeet a b k (byS (l.getD 0 0) (l.getD n 0) d k) ∧ l.getD 0 0 ≤ l.getD n 0 ∧ (d ≤ 0 → l.getD 0 0 = l.getD n 0) := by
  have h0 := (h.mem _).1 (getD_memI (l := l) (i := 0) (by omega))
  have hl := (h.mem _).1 (getD_memI (l := l) (i := n) (by omega))
  have a1 := h0.1.1
  have a2 := hl.1.1
  have b1 := ha.h1
  have b3 := ha.h3
  have hle : l.getD 0 0 ≤ l.getD n 0 := by
    by_cases hn0 : n = 0
    · subst hn0; exact Int.le_refl _
    · have := sorted_lt h.sorted (i := 0) (j := n) (by omega) (by omega); omega
  have hall : ∀ u, Both a b u ↔ u ∈ l := fun u => ⟨fun x => (h.mem u).2 ⟨x, found_end hp hv u x⟩, fun x => ((h.mem u).1 x).1⟩
  have hend : ∀ u, u ∈ l → l.getD 0 0 ≤ u ∧ u ≤ l.getD n 0 := fun u hu => by
    obtain ⟨i, hi, rfl⟩ := mem_getD hu
    constructor
    · by_cases hi0 : i = 0
      · subst hi0; exact Int.le_refl _
      · have := sorted_lt h.sorted (i := 0) (j := i) (by omega) hi; omega
    · by_cases hin : i = n
      · subst hin; exact Int.le_refl _
      · have := sorted_lt h.sorted (i := i) (j := n) (by omega) (by omega); omega
  by_cases hn0 : n = 0
  · subst hn0
    rw [if_pos rfl] at hd
    subst hd
    refine ⟨⟨by_good (by have := a1.1; omega) (Int.le_refl _) (by have := a1.2.1; omega) (by omega) hk, fun u => ?_, by_k ..⟩, Int.le_refl _, fun _ => rfl⟩
    rw [one_in, hall]
    constructor
    · rintro rfl; exact getD_memI (by omega)
    · intro hu; have := hend u hu; omega
  · rw [if_neg hn0] at hd
    have h1 := (h.mem _).1 (getD_memI (l := l) (i := 1) (by omega))
    have s01 := sorted_lt h.sorted (i := 0) (j := 1) (by omega) (by omega)
    have hdv := ((both_iff ha hb h0.1 _).1 h1.1)
    have hb0 := ((both_iff ha hb h0.1 _).1 h0.1)
    have hL : lcmS a b = d := by
      have hpos : 0 < lcmS a b := by
        rcases Int.lt_or_eq_of_le (lcmS_nonneg a b) with h | h
        · exact h
        · rw [← h] at hdv
          have := Int.zero_dvd.1 hdv.2.2
          omega
      have hle := Int.le_of_dvd (by omega) hdv.2.2
      by_cases he : lcmS a b = d
      · exact he
      · exfalso
        have hx : Both a b (l.getD 0 0 + lcmS a b) := (both_iff ha hb h0.1 _).2 ⟨by omega, by omega, by rw [show l.getD 0 0 + lcmS a b - l.getD 0 0 = lcmS a b by omega]; exact Int.dvd_refl _⟩
        obtain ⟨i, hi, e⟩ := mem_getD ((hall _).1 hx)
        have : i = 0 ∨ i = 1 ∨ 1 < i := by omega
        rcases this with rfl | rfl | h2
        · omega
        · omega
        · have := sorted_lt h.sorted (i := 1) (j := i) h2 hi; omega
    have hdp : 0 < d := by omega
    refine ⟨⟨by_good (by have := a1.1; omega) hle (by have := a2.2.1; omega) (by omega) hk, fun u => ?_, by_k ..⟩, hle, fun h => by omega⟩
    rw [by_in hle (.inl hdp), both_iff ha hb h0.1, hL]
    constructor
    · rintro ⟨x, y, z⟩
      have := (both_iff ha hb h0.1 _).1 hl.1
      exact ⟨by omega, by omega, z⟩
    · rintro ⟨x, y, z⟩
      have := hend u ((hall u).1 ((both_iff ha hb h0.1 _).2 ⟨x, y, hL ▸ z⟩))
      exact ⟨this.1, this.2, z⟩
theorem listed_none {a b : Ab} {v : Int} (h : Listed a b v []) (hp : Place a v) (hv : ¬ v ≤ a.hi) : ∀ u, ¬ Both a b u := fun u hu => by
  have := (h.mem u).2 ⟨hu, found_end hp hv u hu⟩
  cases this
end Go.Proofs.Ytioiffbnbjalcaa
