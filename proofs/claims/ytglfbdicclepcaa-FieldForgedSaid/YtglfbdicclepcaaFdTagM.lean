/- A tag tells reports and keys apart. Plain mathematics. -/
import Derived.Test.YtglfbdicclepcaaFdLawM
set_option linter.unusedVariables false
set_option linter.unusedSimpArgs false
namespace Go.Proofs.Ytglfbdicclepcaa
open Go.RowKit
set_option maxRecDepth 100000
def stepB (v : BitVec 64) : BitVec 64 :=
  ((v * 11400714819323198485#64 ^^^ (v * 11400714819323198485#64) >>> 29) * 13787848793156543929#64) ^^^ ((v * 11400714819323198485#64 ^^^ (v * 11400714819323198485#64) >>> 29) * 13787848793156543929#64) >>> 32
theorem ofInt_nat (b : BitVec 64) : BitVec.ofInt 64 (b.toNat : Int) = b := by
  apply BitVec.eq_of_toNat_eq
  rw [BitVec.toNat_ofInt]
  have := b.isLt
  omega
theorem xorB (a b : BitVec 64) : bits .xor .u64 (a.toNat : Int) (b.toNat : Int) = ((a ^^^ b).toNat : Int) := by
  have e : bits .xor .u64 (a.toNat : Int) (b.toNat : Int) = IntKind.u64.wrap ((BitVec.ofInt 64 (a.toNat : Int) ^^^ BitVec.ofInt 64 (b.toNat : Int)).toNat : Int) := rfl
  rw [e, ofInt_nat, ofInt_nat]
  have w : ∀ c : BitVec 64, IntKind.u64.wrap (c.toNat : Int) = (c.toNat : Int) := fun c => by
    have := c.isLt
    simp [IntKind.wrap, IntKind.bits, IntKind.signed]
    omega
  exact w _
theorem mulB (a : BitVec 64) (c : Nat) : IntKind.wrap .u64 ((a.toNat : Int) * (c : Int)) = ((a * BitVec.ofNat 64 c).toNat : Int) := by
  rw [BitVec.toNat_mul, BitVec.toNat_ofNat, Nat.mul_mod_mod]
  simp [IntKind.wrap, IntKind.bits, IntKind.signed]
theorem shrB (a : BitVec 64) (k n : Nat) (h : n = 2 ^ k) : (a.toNat : Int) / (n : Int) = ((a >>> k).toNat : Int) := by
  rw [BitVec.toNat_ushiftRight, Nat.shiftRight_eq_div_pow, h]
  simp
theorem stepI_eq (a b : BitVec 64) : stepI (a.toNat : Int) (b.toNat : Int) = ((stepB (a ^^^ b)).toNat : Int) := by
  unfold stepI
  rw [xorB, show (11400714819323198485 : Int) = ((11400714819323198485 : Nat) : Int) from rfl, show (13787848793156543929 : Int) = ((13787848793156543929 : Nat) : Int) from rfl, show (536870912 : Int) = ((536870912 : Nat) : Int) from rfl, show (4294967296 : Int) = ((4294967296 : Nat) : Int) from rfl, mulB, shrB _ 29 _ (by decide), xorB, mulB, shrB _ 32 _ (by decide), xorB]
  rfl
theorem xsh_inj {x y : BitVec 64} {s : Nat} (hs : 0 < s) (h : x ^^^ x >>> s = y ^^^ y >>> s) : x = y := by
  have hz : (x ^^^ y) = (x ^^^ y) >>> s := by
    apply BitVec.eq_of_getLsbD_eq
    intro i hi
    have := congrArg (fun z => z.getLsbD i) h
    simp only [BitVec.getLsbD_xor, BitVec.getLsbD_ushiftRight] at this ⊢
    revert this
    cases x.getLsbD i <;> cases y.getLsbD i <;> cases x.getLsbD (s + i) <;> cases y.getLsbD (s + i) <;> simp
  have h0 : (x ^^^ y).toNat = 0 := by
    have e := congrArg BitVec.toNat hz
    rw [BitVec.toNat_ushiftRight, Nat.shiftRight_eq_div_pow] at e
    rcases Nat.eq_zero_or_pos (x ^^^ y).toNat with c | c
    · exact c
    · have h2 : 2 ≤ 2 ^ s := by
        calc 2 = 2 ^ 1 := rfl
          _ ≤ 2 ^ s := Nat.pow_le_pow_right (by decide) hs
      have := Nat.div_lt_self c (show 1 < 2 ^ s by omega)
      omega
  have hxy : x ^^^ y = 0#64 := BitVec.eq_of_toNat_eq (by rw [h0]; rfl)
  have : x ^^^ y ^^^ y = 0#64 ^^^ y := by rw [hxy]
  rwa [BitVec.xor_assoc, BitVec.xor_self, BitVec.xor_zero, BitVec.zero_xor] at this
theorem mul_inj {x y a b : BitVec 64} (hab : a * b = 1#64) (h : x * a = y * a) : x = y := by
  have : x * a * b = y * a * b := by rw [h]
  rwa [BitVec.mul_assoc, BitVec.mul_assoc, hab, BitVec.mul_one, BitVec.mul_one] at this
theorem stepB_inj {v u : BitVec 64} (h : stepB v = stepB u) : v = u := by
  unfold stepB at h
  have h1 := xsh_inj (by decide) h
  have h2 := mul_inj (a := 13787848793156543929#64) (b := 10871156337175269513#64) (by decide) h1
  have h3 := xsh_inj (by decide) h2
  exact mul_inj (a := 11400714819323198485#64) (b := 17428512612931826493#64) (by decide) h3
theorem xor_inj {h k w : BitVec 64} (e : h ^^^ w = k ^^^ w) : h = k := by
  have : h ^^^ w ^^^ w = k ^^^ w ^^^ w := by rw [e]
  rwa [BitVec.xor_assoc, BitVec.xor_assoc, BitVec.xor_self, BitVec.xor_zero, BitVec.xor_zero] at this
/-- A list folded by any one-to-one step. -/
def foldS (S : BitVec 64 → BitVec 64) : List Int → BitVec 64 → BitVec 64
  | [], h => h
  | w :: l, h => foldS S l (S (h ^^^ BitVec.ofInt 64 w))
section
variable {S : BitVec 64 → BitVec 64} (hS : ∀ {v u : BitVec 64}, S v = S u → v = u)
include hS
theorem foldS_inj (l : List Int) : ∀ {h k : BitVec 64}, foldS S l h = foldS S l k → h = k := by
  induction l with
  | nil => intro h k e; exact e
  | cons w l ih => intro h k e; exact xor_inj (hS (ih e))
theorem foldS_set (l : List Int) : ∀ {i : Nat} {x : Int} {h : BitVec 64}, i < l.length → foldS S (l.set i x) h = foldS S l h → BitVec.ofInt 64 x = BitVec.ofInt 64 (l.getD i 0) := by
  induction l with
  | nil => intro i x h hi; simp at hi
  | cons w l ih =>
    intro i x h hi e
    cases i with
    | zero =>
      have e2 := hS (foldS_inj hS l e)
      rw [BitVec.xor_comm h, BitVec.xor_comm h] at e2
      exact xor_inj e2
    | succ i =>
      have := ih (i := i) (x := x) (h := S (h ^^^ BitVec.ofInt 64 w)) (by simpa using hi) e
      simpa using this
end
def foldB (l : List Int) (h : BitVec 64) : BitVec 64 := foldS stepB l h
theorem foldB_set {l : List Int} {i : Nat} {x : Int} {h : BitVec 64} (hi : i < l.length) (e : foldB (l.set i x) h = foldB l h) : BitVec.ofInt 64 x = BitVec.ofInt 64 (l.getD i 0) := foldS_set (fun h => stepB_inj h) l hi e
theorem ofInt_mod (w : Int) : (w % 18446744073709551616) = ((BitVec.ofInt 64 w).toNat : Int) := by
  rw [BitVec.toNat_ofInt]
  omega
theorem fold_eq (l : List Int) : ∀ (h : BitVec 64), l.foldl (fun h w => stepI h (w % 18446744073709551616)) (h.toNat : Int) = ((foldB l h).toNat : Int) := by
  unfold foldB
  induction l with
  | nil => intro h; rfl
  | cons w l ih =>
    intro h
    rw [List.foldl_cons, ofInt_mod, stepI_eq, ih, foldS]

def wB (l : List Int) : BitVec 64 := foldB l (stepB (2611923443488327891#64 ^^^ 6#64))
theorem wfold_eq (l : List Int) : wfold l 6 = ((wB l).toNat : Int) := by
  unfold wfold wB
  have := stepI_eq 2611923443488327891#64 6#64
  rw [show (2611923443488327891 : Int) = ((2611923443488327891#64 : BitVec 64).toNat : Int) from by decide, show ((6 : Nat) : Int) = ((6#64 : BitVec 64).toNat : Int) from by decide, this, fold_eq]
theorem key_eq {k : Int} (h : 0 ≤ k ∧ k < 18446744073709551616) : k = ((BitVec.ofInt 64 k).toNat : Int) := by
  rw [← ofInt_mod, Int.emod_eq_of_lt h.1 h.2]
def tB (k : BitVec 64) (w : BitVec 64) : BitVec 64 := stepB (stepB (11820040416388919760#64 ^^^ k) ^^^ w)
theorem tag_eq {k : Int} (h : 0 ≤ k ∧ k < 18446744073709551616) (c : Ct) : tagI k c = ((tB (BitVec.ofInt 64 k) (wB (fldsC c))).toNat : Int) := by
  unfold tagI joinI tB
  rw [wfold_eq]
  conv => lhs; rw [key_eq h]
  rw [show (11820040416388919760 : Int) = ((11820040416388919760#64 : BitVec 64).toNat : Int) from by decide, stepI_eq, stepI_eq]
theorem tag_key {k j : Int} {c : Ct} (hk : 0 ≤ k ∧ k < 18446744073709551616) (hj : 0 ≤ j ∧ j < 18446744073709551616) (e : tagI k c = tagI j c) : k = j := by
  rw [tag_eq hk, tag_eq hj] at e
  have e1 : tB (BitVec.ofInt 64 k) (wB (fldsC c)) = tB (BitVec.ofInt 64 j) (wB (fldsC c)) := BitVec.eq_of_toNat_eq (by omega)
  have e2 := stepB_inj (xor_inj (stepB_inj e1))
  rw [BitVec.xor_comm _ (BitVec.ofInt 64 k), BitVec.xor_comm _ (BitVec.ofInt 64 j)] at e2
  rw [key_eq hk, key_eq hj, xor_inj e2]
theorem tag_fld {k x : Int} {i : Nat} {c d : Ct} (hk : 0 ≤ k ∧ k < 18446744073709551616) (hi : i < 6) (hd : fldsC d = (fldsC c).set i x) (hx : -9223372036854775808 ≤ x ∧ x ≤ 9223372036854775807) (hy : -9223372036854775808 ≤ (fldsC c).getD i 0 ∧ (fldsC c).getD i 0 ≤ 9223372036854775807) (e : tagI k c = tagI k d) : x = (fldsC c).getD i 0 := by
  rw [tag_eq hk, tag_eq hk] at e
  have e1 : tB (BitVec.ofInt 64 k) (wB (fldsC d)) = tB (BitVec.ofInt 64 k) (wB (fldsC c)) := BitVec.eq_of_toNat_eq (by omega)
  have e2 := stepB_inj e1
  rw [BitVec.xor_comm, BitVec.xor_comm _ (wB (fldsC c))] at e2
  have e3 := xor_inj e2
  rw [hd] at e3
  have e4 := foldB_set (by show i < 6; exact hi) e3
  have e5 := congrArg BitVec.toNat e4
  rw [BitVec.toNat_ofInt, BitVec.toNat_ofInt] at e5
  omega
/-! ### A changed report -/
def chgC (c : Ct) (k n : Int) : Ct :=
  if k % 7 = 0 then ⟨IntKind.wrap .i64 (c.machine + n), c.seq, c.promise, c.seen, c.looked, c.broken, c.tag⟩
  else if k % 7 = 1 then ⟨c.machine, IntKind.wrap .i64 (c.seq + n), c.promise, c.seen, c.looked, c.broken, c.tag⟩
  else if k % 7 = 2 then ⟨c.machine, c.seq, IntKind.wrap .i64 (c.promise + n), c.seen, c.looked, c.broken, c.tag⟩
  else if k % 7 = 3 then ⟨c.machine, c.seq, c.promise, IntKind.wrap .i64 (c.seen + n), c.looked, c.broken, c.tag⟩
  else if k % 7 = 4 then ⟨c.machine, c.seq, c.promise, c.seen, IntKind.wrap .i64 (c.looked + n), c.broken, c.tag⟩
  else if k % 7 = 5 then ⟨c.machine, c.seq, c.promise, c.seen, c.looked, IntKind.wrap .i64 (c.broken + n), c.tag⟩
  else ⟨c.machine, c.seq, c.promise, c.seen, c.looked, c.broken, IntKind.wrap .u64 (c.tag + IntKind.wrap .u64 n)⟩
theorem w_bd (x : Int) : -9223372036854775808 ≤ IntKind.wrap .i64 x ∧ IntKind.wrap .i64 x ≤ 9223372036854775807 := by
  simp [IntKind.wrap, IntKind.bits, IntKind.signed, Int.bmod]; omega
theorem w_ne {x n : Int} (hx : -9223372036854775808 ≤ x ∧ x ≤ 9223372036854775807) (hn : -9223372036854775808 ≤ n ∧ n ≤ 9223372036854775807) (h0 : n ≠ 0) : IntKind.wrap .i64 (x + n) ≠ x := by
  simp [IntKind.wrap, IntKind.bits, IntKind.signed, Int.bmod]; omega
theorem wu_ne {x n : Int} (hx : 0 ≤ x ∧ x < 18446744073709551616) (hn : -9223372036854775808 ≤ n ∧ n ≤ 9223372036854775807) (h0 : n ≠ 0) : IntKind.wrap .u64 (x + IntKind.wrap .u64 n) ≠ x := by
  simp [IntKind.wrap, IntKind.bits, IntKind.signed]; omega
theorem wu_bd (x : Int) : 0 ≤ IntKind.wrap .u64 x ∧ IntKind.wrap .u64 x < 18446744073709551616 := by
  simp [IntKind.wrap, IntKind.bits, IntKind.signed]; omega
theorem step_bd (h w : Int) : 0 ≤ bits .xor .u64 h w ∧ bits .xor .u64 h w < 18446744073709551616 := by
  have e : bits .xor .u64 h w = IntKind.u64.wrap ((BitVec.ofInt 64 h ^^^ BitVec.ofInt 64 w).toNat : Int) := rfl
  rw [e]; exact wu_bd _
theorem stepI_bd (h w : Int) : 0 ≤ stepI h w ∧ stepI h w < 18446744073709551616 := by unfold stepI; exact step_bd _ _
theorem tag_bd (k : Int) (c : Ct) : 0 ≤ tagI k c ∧ tagI k c < 18446744073709551616 := by unfold tagI joinI; exact stepI_bd _ _
theorem keyS_bd (i : Nat) : 0 ≤ keyS i ∧ keyS i < 18446744073709551616 := by
  unfold keyS wfold
  rw [List.foldl_cons, List.foldl_cons, List.foldl_nil]
  exact stepI_bd _ _
theorem keys_bd {n : Nat} {i : Nat} : 0 ≤ (keysS n).getD i 0 ∧ (keysS n).getD i 0 < 18446744073709551616 := by
  rw [List.getD_eq_getElem?_getD]
  cases h : (keysS n)[i]? with
  | none => simp
  | some k =>
    obtain ⟨j, _, rfl⟩ := List.mem_map.1 (List.mem_of_getElem? h)
    rw [Option.getD_some]; exact keyS_bd j
/-- What is asked of a key's list: its keys are words. -/
def KeysOk (keys : List Int) : Prop := ∀ i : Nat, 0 ≤ keys.getD i 0 ∧ keys.getD i 0 < 18446744073709551616
theorem right_i64 {keys : List Int} {c : Ct} (h : RightC keys c) (hl : keys.length ≤ 1000) : ∀ i : Nat, i < 6 → i ≠ 2 → -9223372036854775808 ≤ (fldsC c).getD i 0 ∧ (fldsC c).getD i 0 ≤ 9223372036854775807 := fun i hi h2 => by
  obtain ⟨h1, h2, h3, h4, h5, h6, h7, h8, _⟩ := h
  match i, hi, h2 with
  | 0, _, _ => show _ ≤ c.machine ∧ c.machine ≤ _; omega
  | 1, _, _ => show _ ≤ c.seq ∧ c.seq ≤ _; omega
  | 3, _, _ => show _ ≤ c.seen ∧ c.seen ≤ _; omega
  | 4, _, _ => show _ ≤ c.looked ∧ c.looked ≤ _; omega
  | 5, _, _ => show _ ≤ c.broken ∧ c.broken ≤ _; omega
theorem chg_wrong {keys : List Int} {c : Ct} {k n : Int} (hk : KeysOk keys) (hl : keys.length ≤ 1000) (hc : RightC keys c) (hp : -9223372036854775808 ≤ c.promise ∧ c.promise ≤ 9223372036854775807) (hn : -9223372036854775808 ≤ n ∧ n ≤ 9223372036854775807) (h0 : n ≠ 0) (h7 : ¬ k % 7 = 0) : rightE keys (chgC c k n) = 320 := by
  have hr := right_i64 hc hl
  have ht : c.tag = tagI (keys.getD c.machine.toNat 0) c := hc.2.2.2.2.2.2.2.2
  have key : ∀ (i : Nat) (d : Ct) (x : Int), i < 6 → (-9223372036854775808 ≤ (fldsC c).getD i 0 ∧ (fldsC c).getD i 0 ≤ 9223372036854775807) → fldsC d = (fldsC c).set i (IntKind.wrap .i64 (x + n)) → x = (fldsC c).getD i 0 → d.machine = c.machine → d.tag = c.tag → rightE keys d = 320 := fun i d x hi hb hd hx hm hg => by
    unfold rightE
    rw [if_neg]
    intro q
    have q9 := q.2.2.2.2.2.2.2.2
    rw [hm, hg, ht] at q9
    have := tag_fld (hk _) hi hd (w_bd _) hb q9
    rw [← hx] at this
    exact w_ne (by rw [hx]; exact hb) hn h0 this
  unfold chgC
  rw [if_neg h7]
  split
  · exact key 1 _ c.seq (by omega) (hr 1 (by omega) (by omega)) rfl rfl rfl rfl
  split
  · exact key 2 _ c.promise (by omega) hp rfl rfl rfl rfl
  split
  · exact key 3 _ c.seen (by omega) (hr 3 (by omega) (by omega)) rfl rfl rfl rfl
  split
  · exact key 4 _ c.looked (by omega) (hr 4 (by omega) (by omega)) rfl rfl rfl rfl
  split
  · exact key 5 _ c.broken (by omega) (hr 5 (by omega) (by omega)) rfl rfl rfl rfl
  · unfold rightE
    rw [if_neg]
    intro q
    have q9 := q.2.2.2.2.2.2.2.2
    have q8 : IntKind.wrap .u64 (c.tag + IntKind.wrap .u64 n) = tagI (keys.getD c.machine.toNat 0) c := q9
    rw [← ht] at q8
    exact wu_ne (by rw [ht]; exact tag_bd _ _) hn h0 q8
theorem other_wrong {keys : List Int} {c : Ct} {n : Int} (hk : KeysOk keys) (hc : RightC keys c) (hn : -9223372036854775808 ≤ n ∧ n ≤ 9223372036854775807) (h0 : n ≠ 0) : rightE keys (signC (IntKind.wrap .u64 (keys.getD c.machine.toNat 0 + IntKind.wrap .u64 n)) c) = 320 := by
  unfold rightE
  rw [if_neg]
  intro q
  have q9 : tagI (IntKind.wrap .u64 (keys.getD c.machine.toNat 0 + IntKind.wrap .u64 n)) c = tagI (keys.getD c.machine.toNat 0) c := q.2.2.2.2.2.2.2.2
  exact wu_ne (hk _) hn h0 (tag_key (wu_bd _) (hk _) q9)
theorem gath_wrong {keys : List Int} {p : Int} {l : List Ct} {a b : Ct} (ha : rightE keys a = 320) (hb : rightE keys b = 320) : gathS keys (l ++ [a, b]) p = gathS keys l p :=
  gath_same fun c hc => by
    have h0 := right_zero.2 hc.2
    simp only [List.mem_append, List.mem_cons, List.not_mem_nil, or_false]
    constructor
    · rintro (h | rfl | rfl)
      · exact h
      · omega
      · omega
    · exact .inl
def woC (l : List Ct) (k : Nat) : List Ct := l.take k ++ l.drop (k + 1)
theorem woC_len {l : List Ct} {k : Nat} (h : k < l.length) : (woC l k).length = l.length - 1 := by unfold woC; simp; omega
theorem right_two (keys : List Int) (c : Ct) : rightE keys c = 0 ∨ rightE keys c = 320 := by unfold rightE; split <;> simp
end Go.Proofs.Ytglfbdicclepcaa
