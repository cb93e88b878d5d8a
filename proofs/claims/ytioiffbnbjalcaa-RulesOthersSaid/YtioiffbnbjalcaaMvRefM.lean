/- What is left of two sets if a comparison holds, or does not. No program. -/
import Derived.Test.YtioiffbnbjalcaaMvCrtM
set_option linter.unusedVariables false
set_option linter.unusedSimpArgs false
namespace Go.Proofs.Ytioiffbnbjalcaa
open Go.RowKit

/-- What is left of a set: some of its words, with its mask. -/
structure Prt (a x : Ab) : Prop where
  good : Good x
  sub : ∀ v, InS x v → InS a v
  mask : x.k = a.k
theorem Prt.leq {a x : Ab} (ga : Good a) (h : Prt a x) : leqS x a = true := decide_eq_true (leq_incl h.good ga h.sub (by rw [h.mask]; exact sub_self _))
theorem Prt.has {a x : Ab} (h : Prt a x) {v : Int} (hv : InS x v) (n : Int) : InS x v ∧ notS (andS n a.k) x.k = 0 := ⟨hv, by rw [h.mask]; exact sub_not (sub_and n a.k)⟩
theorem Prt.self {a : Ab} (ga : Good a) : Prt a a := ⟨ga, fun _ h => h, rfl⟩
def clipI (a : Ab) (lo hi : Int) : Bool := decide (max a.lo lo + (a.lo - max a.lo lo) % a.m ≤ min a.hi hi)
def clipS (a : Ab) (lo hi : Int) : Ab := if max a.lo lo + (a.lo - max a.lo lo) % a.m ≤ min a.hi hi then likeS a.lo a.m (max a.lo lo) (min a.hi hi) a.k else abZ
theorem clip_yes {a : Ab} {lo hi : Int} (h : max a.lo lo + (a.lo - max a.lo lo) % a.m ≤ min a.hi hi) : clipS a lo hi = byS (max a.lo lo + (a.lo - max a.lo lo) % a.m) (min a.hi hi) a.m a.k ∧ clipI a lo hi = true :=
  ⟨by unfold clipS; rw [if_pos h]; rfl, decide_eq_true h⟩
theorem clip_no {a : Ab} {lo hi : Int} (h : ¬ max a.lo lo + (a.lo - max a.lo lo) % a.m ≤ min a.hi hi) : clipS a lo hi = abZ ∧ clipI a lo hi = false :=
  ⟨by unfold clipS; rw [if_neg h], decide_eq_false h⟩
theorem clip_in {a : Ab} {lo hi : Int} (ga : Good a) (h : clipI a lo hi = true) (v : Int) : InS (clipS a lo hi) v ↔ InS a v ∧ lo ≤ v ∧ v ≤ hi := by
  have hf := of_decide_eq_true h
  have h6 := ga.h6
  unfold clipS
  rw [if_pos hf, like_in (by omega) hf]
  unfold InS
  constructor
  · rintro ⟨x, y, z⟩; exact ⟨⟨by omega, by omega, Int.emod_eq_zero_of_dvd z⟩, by omega, by omega⟩
  · rintro ⟨⟨x, y, z⟩, u, w⟩; exact ⟨by omega, by omega, Int.dvd_of_emod_eq_zero z⟩
theorem clip_prt {a : Ab} {lo hi : Int} (ga : Good a) (h : clipI a lo hi = true) : Prt a (clipS a lo hi) := by
  have hf := of_decide_eq_true h
  have h6 := ga.h6
  have h1 := ga.h1
  have h3 := ga.h3
  refine ⟨?_, fun v hv => ((clip_in ga h v).1 hv).1, ?_⟩
  · unfold clipS; rw [if_pos hf]; exact like_good (by omega) (by omega) hf (by omega) ga.mk'
  · unfold clipS; rw [if_pos hf]; unfold likeS; exact by_k ..
theorem clip_is {a : Ab} {lo hi v : Int} (ga : Good a) (hv : InS a v) (h1 : lo ≤ v) (h2 : v ≤ hi) : clipI a lo hi = true := by
  obtain ⟨x, y, z⟩ := hv
  have h6 := ga.h6
  refine decide_eq_true ?_
  obtain ⟨c, hc⟩ := Int.dvd_of_emod_eq_zero z
  generalize hM : max a.lo lo = M
  have : (a.lo - M) % a.m = (v - M) % a.m := by
    rw [show v - M = (a.lo - M) + a.m * c by omega, Int.add_mul_emod_self_left]
  have := emod_le (v - M) a.m (by omega)
  omega
/-! ### Less -/
def lesI (a b : Ab) (d : Int) : Bool := clipI a (-2147483648) (b.hi - d) && clipI b (a.lo + d) 2147483647
def lesA (a b : Ab) (d : Int) : Ab := if lesI a b d = true then clipS a (-2147483648) (b.hi - d) else abZ
def lesB (a b : Ab) (d : Int) : Ab := if lesI a b d = true then clipS b (a.lo + d) 2147483647 else abZ
theorem les_both {a b : Ab} {d : Int} (h : lesI a b d = true) : clipI a (-2147483648) (b.hi - d) = true ∧ clipI b (a.lo + d) 2147483647 = true := by
  unfold lesI at h; rwa [Bool.and_eq_true] at h
theorem les_prt {a b : Ab} {d : Int} (ga : Good a) (gb : Good b) (h : lesI a b d = true) : Prt a (lesA a b d) ∧ Prt b (lesB a b d) := by
  unfold lesA lesB; rw [if_pos h, if_pos h]
  exact ⟨clip_prt ga (les_both h).1, clip_prt gb (les_both h).2⟩
theorem les_in {a b : Ab} {d v w : Int} (ga : Good a) (gb : Good b) (hv : InS a v) (hw : InS b w) (h : v + d ≤ w) : lesI a b d = true ∧ InS (lesA a b d) v ∧ InS (lesB a b d) w := by
  have v1 := hv.1; have v2 := hv.2.1; have w1 := hw.1; have w2 := hw.2.1
  have a1 := ga.h1; have b3 := gb.h3
  have c1 : clipI a (-2147483648) (b.hi - d) = true := clip_is ga hv (by omega) (by omega)
  have c2 : clipI b (a.lo + d) 2147483647 = true := clip_is gb hw (by omega) (by omega)
  have c : lesI a b d = true := by unfold lesI; rw [c1, c2]; rfl
  unfold lesA lesB; rw [if_pos c, if_pos c]
  exact ⟨c, (clip_in ga c1 v).2 ⟨hv, by omega, by omega⟩, (clip_in gb c2 w).2 ⟨hw, by omega, by omega⟩⟩
theorem les_yes {a b : Ab} {d : Int} (h1 : clipI a (-2147483648) (b.hi - d) = true) (h2 : clipI b (a.lo + d) 2147483647 = true) : lesA a b d = clipS a (-2147483648) (b.hi - d) ∧ lesB a b d = clipS b (a.lo + d) 2147483647 ∧ lesI a b d = true := by
  have h : lesI a b d = true := by unfold lesI; rw [h1, h2]; rfl
  unfold lesA lesB; rw [if_pos h, if_pos h]; exact ⟨rfl, rfl, h⟩
theorem les_no {a b : Ab} {d : Int} (h : ¬ clipI a (-2147483648) (b.hi - d) = true ∨ ¬ clipI b (a.lo + d) 2147483647 = true) : lesA a b d = abZ ∧ lesB a b d = abZ ∧ lesI a b d = false := by
  have h : ¬ lesI a b d = true := fun k => h.elim (fun x => x (les_both k).1) (fun x => x (les_both k).2)
  unfold lesA lesB; rw [if_neg h, if_neg h]; exact ⟨rfl, rfl, Bool.eq_false_iff.2 h⟩
/-! ### Not equal -/
def wthI (a b : Ab) : Bool := if stepS b = 0 then (if a.lo = b.lo then clipI a (a.lo + 1) 2147483647 else if a.hi = b.lo then clipI a (-2147483648) (a.hi - 1) else true) else true
def wthS (a b : Ab) : Ab := if stepS b = 0 then (if a.lo = b.lo then clipS a (a.lo + 1) 2147483647 else if a.hi = b.lo then clipS a (-2147483648) (a.hi - 1) else a) else a
theorem wth_prt {a b : Ab} (ga : Good a) (h : wthI a b = true) : Prt a (wthS a b) := by
  unfold wthI at h; unfold wthS
  by_cases h0 : stepS b = 0
  · rw [if_pos h0] at h ⊢
    by_cases h1 : a.lo = b.lo
    · rw [if_pos h1] at h ⊢; exact clip_prt ga h
    · rw [if_neg h1] at h ⊢
      by_cases h2 : a.hi = b.lo
      · rw [if_pos h2] at h ⊢; exact clip_prt ga h
      · rw [if_neg h2] at h ⊢; exact Prt.self ga
  · rw [if_neg h0] at h ⊢; exact Prt.self ga
theorem wth_in {a b : Ab} {v w : Int} (ga : Good a) (gb : Good b) (hv : InS a v) (hw : InS b w) (h : v ≠ w) : wthI a b = true ∧ InS (wthS a b) v := by
  have v1 := hv.1; have v2 := hv.2.1
  have a1 := ga.h1; have a3 := ga.h3
  unfold wthI wthS
  by_cases h0 : stepS b = 0
  · have := one_of gb h0 hw
    rw [if_pos h0, if_pos h0]
    by_cases h1 : a.lo = b.lo
    · have c := clip_is (lo := a.lo + 1) (hi := 2147483647) ga hv (by omega) (by omega)
      rw [if_pos h1, if_pos h1]; exact ⟨c, (clip_in ga c v).2 ⟨hv, by omega, by omega⟩⟩
    · rw [if_neg h1, if_neg h1]
      by_cases h2 : a.hi = b.lo
      · have c := clip_is (lo := -2147483648) (hi := a.hi - 1) ga hv (by omega) (by omega)
        rw [if_pos h2, if_pos h2]; exact ⟨c, (clip_in ga c v).2 ⟨hv, by omega, by omega⟩⟩
      · rw [if_neg h2, if_neg h2]; exact ⟨rfl, hv⟩
  · rw [if_neg h0, if_neg h0]; exact ⟨rfl, hv⟩
def neqI (a b : Ab) : Bool := wthI a b && wthI b (wthS a b)
def neqA (a b : Ab) : Ab := if neqI a b = true then wthS a b else abZ
def neqB (a b : Ab) : Ab := if neqI a b = true then wthS b (wthS a b) else abZ
theorem neq_prt {a b : Ab} (ga : Good a) (gb : Good b) (h : neqI a b = true) : Prt a (neqA a b) ∧ Prt b (neqB a b) := by
  have k := h
  unfold neqI at k; rw [Bool.and_eq_true] at k
  unfold neqA neqB; rw [if_pos h, if_pos h]
  exact ⟨wth_prt ga k.1, wth_prt gb k.2⟩
theorem neq_in {a b : Ab} {v w : Int} (ga : Good a) (gb : Good b) (hv : InS a v) (hw : InS b w) (h : v ≠ w) : neqI a b = true ∧ InS (neqA a b) v ∧ InS (neqB a b) w := by
  have x := wth_in ga gb hv hw h
  have y := wth_in gb (wth_prt ga x.1).good hw x.2 (fun e => h e.symm)
  have c : neqI a b = true := by unfold neqI; rw [x.1, y.1]; rfl
  unfold neqA neqB; rw [if_pos c, if_pos c]
  exact ⟨c, x.2, y.2⟩
theorem neq_yes {a b : Ab} (h1 : wthI a b = true) (h2 : wthI b (wthS a b) = true) : neqA a b = wthS a b ∧ neqB a b = wthS b (wthS a b) ∧ neqI a b = true := by
  have h : neqI a b = true := by unfold neqI; rw [h1, h2]; rfl
  unfold neqA neqB; rw [if_pos h, if_pos h]; exact ⟨rfl, rfl, h⟩
theorem neq_no {a b : Ab} (h : ¬ wthI a b = true ∨ ¬ wthI b (wthS a b) = true) : neqA a b = abZ ∧ neqB a b = abZ ∧ neqI a b = false := by
  have h : ¬ neqI a b = true := fun k => by
    unfold neqI at k; rw [Bool.and_eq_true] at k
    exact h.elim (fun x => x k.1) (fun x => x k.2)
  unfold neqA neqB; rw [if_neg h, if_neg h]; exact ⟨rfl, rfl, Bool.eq_false_iff.2 h⟩
/-! ### Equal -/
def msk (a : Ab) (k : Int) : Ab := ⟨a.lo, a.hi, a.m, a.r, k⟩
theorem msk_good {a : Ab} {k : Int} (h : Good a) (hk : Mk k) : Good (msk a k) := ⟨h.h1, h.h2, h.h3, hk.1, hk.2, h.h6, h.h7, h.h8⟩
theorem msk_in (a : Ab) (k v : Int) : InS (msk a k) v ↔ InS a v := Iff.rfl
noncomputable def eqA (a b : Ab) : Ab := if meetI a b = true then msk (meetK a b (andS a.k b.k)) a.k else abZ
noncomputable def eqB (a b : Ab) : Ab := if meetI a b = true then msk (meetK a b (andS a.k b.k)) b.k else abZ
theorem eq_yes {a b : Ab} (h : meetI a b = true) : eqA a b = msk (meetK a b (andS a.k b.k)) a.k ∧ eqB a b = msk (meetK a b (andS a.k b.k)) b.k := by
  unfold eqA eqB; rw [if_pos h, if_pos h]; exact ⟨rfl, rfl⟩
theorem eq_no {a b : Ab} (h : ¬ meetI a b = true) : eqA a b = abZ ∧ eqB a b = abZ := by
  unfold eqA eqB; rw [if_neg h, if_neg h]; exact ⟨rfl, rfl⟩
theorem eq_prt {a b : Ab} (ga : Good a) (gb : Good b) (h : meetI a b = true) : Prt a (eqA a b) ∧ Prt b (eqB a b) := by
  have m := meet_ok ga gb (andS_mk ga.mk' gb.mk') h
  unfold eqA eqB; rw [if_pos h, if_pos h]
  exact ⟨⟨msk_good m.good ga.mk', fun v hv => ((m.mem v).1 ((msk_in _ _ v).1 hv)).1, rfl⟩, ⟨msk_good m.good gb.mk', fun v hv => ((m.mem v).1 ((msk_in _ _ v).1 hv)).2, rfl⟩⟩
theorem eq_in {a b : Ab} {v w : Int} (ga : Good a) (gb : Good b) (hv : InS a v) (hw : InS b w) (h : v = w) : meetI a b = true ∧ InS (eqA a b) v ∧ InS (eqB a b) w := by
  subst h
  have c : meetI a b = true := meetI_true.2 ⟨v, hv, hw⟩
  have m := meet_ok ga gb (andS_mk ga.mk' gb.mk') c
  unfold eqA eqB; rw [if_pos c, if_pos c]
  exact ⟨c, (msk_in _ _ v).2 ((m.mem v).2 ⟨hv, hw⟩), (msk_in _ _ v).2 ((m.mem v).2 ⟨hv, hw⟩)⟩
end Go.Proofs.Ytioiffbnbjalcaa
