/- Contracts of span.gcd, span.like, span.within and span.Has. -/
import Derived.Test.YtlokjiniigfaiaaSpFun
set_option linter.unusedVariables false
set_option linter.unusedSimpArgs false
namespace Go.Proofs.Ytlokjiniigfaiaa
open Go.ChangeShapes Go.WideShapes Go.ChangeAt Go.RowKit

theorem gcd_step (x y : Int) (hx : 0 ≤ x) (hy : 0 < y) : (Int.gcd x y : Int) = Int.gcd y (x % y) := by
  obtain ⟨X, rfl⟩ := Int.eq_ofNat_of_zero_le hx
  obtain ⟨Y, rfl⟩ := Int.eq_ofNat_of_zero_le (show 0 ≤ y by omega)
  have h : ((X : Int) % (Y : Int)) = ((X % Y : Nat) : Int) := by simp
  rw [h, Int.gcd_natCast_natCast, Int.gcd_natCast_natCast, Nat.gcd_comm X Y, Nat.gcd_rec Y X, Nat.gcd_comm]

theorem gcdS_drop (a : Int) (l : List Int) (k : Nat) (h : k < l.length) : gcdS a (l.drop k) = gcdS (Int.gcd a l[k]) (l.drop (k + 1)) := by
  rw [List.drop_eq_getElem_cons h]; rfl

set_option maxHeartbeats 1000000 in
theorem gcd_is (a : Int) (l : List Int) (ha : 0 ≤ a ∧ a ≤ 9223372036854775807) (hl : ∀ x ∈ l, 0 ≤ x ∧ x ≤ 9223372036854775807) (p : Option Addr) (cap : Nat) (w : World) (hv : IntsV w l p cap)
    (hres : gcdS a l ≤ 9223372036854775807) :
    Calls Try.prog 49 #[.int .i64 a, .slice p l.length cap] w fun e w' => e = .returned (.int .i64 (gcdS a l)) ∧ Below w.heap.size w w' := by
  have HV := Lib.hid hv
  have HL := Lib.hid hl
  have hn : l.length ≤ 9223372036854775807 := Nat.le_trans hv.1 hv.2.1
  have HR := Lib.hid hres
  clear hv hl hres
  go_enter Try.func49, Try.ntmps49
  go_wp2_with fail
  go_loopw [0, 6, 9] (fun x y i wr => ∃ (k : Nat) (a' : Int), k ≤ l.length ∧ i = .int .i64 k ∧ x = .int .i64 a' ∧ 0 ≤ a' ∧ a' ≤ 9223372036854775807 ∧ gcdS a' (l.drop k) = gcdS a l ∧ Below w.heap.size w wr) (fun _ _ i _ => l.length - (intOf i).toNat)
  case atStart => exact ⟨0, a, Nat.zero_le _, rfl, rfl, ha.1, ha.2, by simp, Below.refl _ _⟩
  case round =>
    obtain ⟨k, a', hk, rfl, rfl, h1, h2, hg, hw⟩ := hrel
    have HG := Lib.hid hg
    clear hg
    by_cases hlt : k < l.length
    · have hv := HV.out.keep (keepsOf hw)
      obtain ⟨b, off, hp, hc⟩ := hv.2.2.2 (by omega)
      have hck := hc k hlt
      have hb := HL.out l[k] (List.getElem_mem hlt)
      have HD := Lib.hid (gcdS_drop a' l k hlt)
      generalize l[k] = x at *
      subst hp
      clear hc hv
      have hlt2 : (k : Int) < (l.length : Int) := by omega
      go_wp2_with fail
      obtain ⟨wo, rfl⟩ : ∃ wo : World, wo = wr := ⟨_, rfl⟩
      go_loopw [0, 6] (fun s t wr => ∃ (x' y' : Int), s = .int .i64 x' ∧ t = .int .i64 y' ∧ 0 ≤ x' ∧ x' ≤ 9223372036854775807 ∧ 0 ≤ y' ∧ y' ≤ 9223372036854775807 ∧ Int.gcd x' y' = Int.gcd a' x ∧ Below w.heap.size w wr) (fun _ t _ => (intOf t).toNat)
      case atStart => exact ⟨a', x, rfl, rfl, h1, h2, hb.1, hb.2, rfl, hw⟩
      case round =>
        obtain ⟨x', y', rfl, rfl, h3, h4, h5, h6, hg, hw2⟩ := hrel
        have HGG := Lib.hid hg
        clear hg
        by_cases hy : y' = 0
        · subst hy
          go_wp2_with fail
          go_roundw
          case rel => exact ⟨k + 1, x', by omega, by go_num, rfl, h3, h4, by rw [← HG.out, HD.out, ← HGG.out, Int.gcd_zero_right, Int.natAbs_of_nonneg h3], hw2⟩
          case measure => simp [intOf]; omega
        · have hy2 : (y' != 0) = true := by simpa using hy
          have hm : x'.tmod y' = x' % y' := Int.tmod_eq_emod_of_nonneg h3
          have hm1 : 0 ≤ x' % y' := Int.emod_nonneg _ hy
          have hm2 : x' % y' < y' := Int.emod_lt_of_pos _ (by omega)
          have HS := Lib.hid (gcd_step x' y' h3 (by omega))
          go_wp2_with fail
          go_quiet (fail)
          go_wp2_with fail
          go_roundw
          case rel => exact ⟨y', x' % y', rfl, rfl, by omega, by omega, by omega, by omega, by have := HS.out; rw [HGG.out] at this; omega, below_drewN hw2 _⟩
          case measure => simp [intOf]; omega
    · obtain rfl : k = l.length := by omega
      have hgf : a' = gcdS a l := by rw [← HG.out]; simp [gcdS]
      subst hgf
      have h9 := HR.out
      go_wp2_with (go_at_call 50; refine (abs_is _ (by omega) _).mono ?_; rintro e w' ⟨rfl, rfl⟩)
      go_ret
      exact ⟨ret_int (by unfold absS; omega), hw⟩

theorem like_bd (r m lo : Int) (hm : 0 < m) : lo ≤ lo + (r - lo) % m ∧ lo + (r - lo) % m < lo + m := by
  have h1 := Int.emod_nonneg (r - lo) (show m ≠ 0 by omega)
  have h2 := Int.emod_lt_of_pos (r - lo) hm
  omega

set_option maxHeartbeats 400000 in
theorem like_is (r m lo hi k : Int) (h1 : -4294967296 ≤ lo) (h2 : lo + (r - lo) % m ≤ hi) (h3 : hi ≤ 4294967296) (h4 : -9223372036854775808 / 2 ≤ r ∧ r ≤ 4611686018427387904) (hm : 0 < m) (hm2 : m ≤ 8589934592) (w : World) :
    Calls Try.prog 51 #[.int .i64 r, .int .i64 m, .int .i64 lo, .int .i64 hi, .int .i64 k] w fun e w' => e = .returned (abVal (likeS r m lo hi k)) ∧ Below w.heap.size w w' := by
  have hb := like_bd r m lo hm
  have hlo : lo ≤ 4294967296 := by omega
  generalize hx : (r - lo) % m = x at *
  have HX := Lib.hid hx
  have E := Lib.hid (show likeS r m lo hi k = byS (lo + x) hi m k by unfold likeS; rw [hx])
  clear hx
  go_enter Try.func51, Try.ntmps51
  go_wp2_with (first | (go_at_call 81; refine (mod_is _ _ hm (by omega) _).mono ?_; rintro e w' ⟨rfl, rfl⟩; rw [HX.out]) | (go_at_call 46; refine (by_is _ _ _ _ (by omega) (by omega) (by omega) (by omega) (by omega) (by omega) _).mono ?_; rintro e w' ⟨rfl, hb⟩; have hq := block_kept hb (by simp) (block_alloc _ _ _); have q1 := cell_of hq; have q2 := unfrozen_of hq; clear hq; unfold abVal))
  exact bodyPost_ret (v := abVal (byS (lo + x) hi m k)) (by simp [results, Try.results51, go_sem, abVal, q1]) rfl ⟨by rw [E.out], below_set5 (below_al _ _ hb) (Nat.le_refl _) _ _ _ _ _⟩

set_option maxHeartbeats 400000 in
theorem within_is (lo hi m r k v : Int) (hm : 0 < m) (h1 : -2305843009213693952 ≤ lo ∧ lo ≤ 2305843009213693952) (h2 : -2305843009213693952 ≤ v ∧ v ≤ 2305843009213693952) (w : World) :
    Calls Try.prog 43 #[.agg #[.int .i64 lo, .int .i64 hi, .int .i64 m, .int .i64 r, .int .i64 k], .int .i64 v] w fun e w' => e = .returned (.bool (decide (lo ≤ v ∧ v ≤ hi ∧ (v - lo) % m = 0))) ∧ Below w.heap.size w w' := by
  have h5 : ¬ m = 0 := by omega
  by_cases ha : lo ≤ v
  · have hr : (v - lo).tmod m = (v - lo) % m := Int.tmod_eq_emod_of_nonneg (by omega)
    go_enter Try.func43, Try.ntmps43
    go_wp2
    all_goals
      go_ret
      exact ⟨by first | (simp [*]; done) | (simp [*]; rfl) | (simp [*]; omega), (Below.refl _ _).alloc (Nat.le_refl _) _⟩
  · go_enter Try.func43, Try.ntmps43
    go_wp2
    all_goals
      go_ret
      exact ⟨by first | (simp [*]; done) | (simp [*]; rfl) | (simp [*]; omega), (Below.refl _ _).alloc (Nat.le_refl _) _⟩

set_option maxHeartbeats 400000 in
theorem has_is (a : Ab) (v k : Int) (hm : 0 < a.m) (h1 : -2305843009213693952 ≤ a.lo ∧ a.lo ≤ 2305843009213693952) (h2 : -2305843009213693952 ≤ v ∧ v ≤ 2305843009213693952) (w : World) :
    Calls Try.prog 13 #[abVal a, .agg #[.int .i64 v, .int .i64 k]] w fun e w' => e = .returned (.bool (decide (InS a v ∧ notS k a.k = 0))) ∧ Below w.heap.size w w' := by
  unfold abVal
  by_cases hi : InS a v
  all_goals
    have hd : decide (a.lo ≤ v ∧ v ≤ a.hi ∧ (v - a.lo) % a.m = 0) = decide (InS a v) := rfl
    have HI := Lib.hid hi
    simp only [hi, decide_true, decide_false] at hd
    go_enter Try.func13, Try.ntmps13
    go_wp2_with (go_at_call 43; refine (within_is _ _ _ _ _ _ hm h1 h2 _).mono ?_; rintro e w' ⟨rfl, hb⟩; rw [hd]; have hq := block_kept hb (n := w.heap.size) (by simp; omega) (block_over _ (block_alloc _ _ _)); have q1 := cell_of hq; have hq' := block_kept hb (n := w.heap.size + 1) (by simp) (by simpa using block_alloc (w.alloc _) _ _); have q1' := cell_of hq'; clear hq hq')
    go_ret
    exact ⟨by simp [HI.out, notS]; try rfl, (((Below.refl _ _).alloc (Nat.le_refl _) _).alloc (by simp) _).trans (hb.mono (by simp; omega))⟩

end Go.Proofs.Ytlokjiniigfaiaa
