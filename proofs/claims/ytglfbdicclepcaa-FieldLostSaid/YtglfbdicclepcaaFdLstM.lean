/- A machine that sends its counts so far again and again. Plain mathematics. -/
import Derived.Test.YtglfbdicclepcaaFdLawM
set_option linter.unusedVariables false
set_option linter.unusedSimpArgs false
namespace Go.Proofs.Ytglfbdicclepcaa
open Go.RowKit
set_option maxRecDepth 100000
structure T3 where
  a : Int
  b : Int
  c : Int
def t30 : T3 := ⟨0, 0, 0⟩
def encT (x : T3) : AV := .agg [.int .u8 x.a, .int .u8 x.b, .int .u8 x.c]
def BT (x : T3) : Prop := (0 ≤ x.a ∧ x.a ≤ 255) ∧ (0 ≤ x.b ∧ x.b ≤ 255) ∧ 0 ≤ x.c ∧ x.c ≤ 255
def nowC (L : List T3) : Nat → Ct
  | 0 => ⟨0, 0, 5, 0, 0, 0, 0⟩
  | i + 1 => ⟨0, ((i : Nat) : Int) + 1, 5, (nowC L i).seen + ((L.getD i t30).a / 200 + (L.getD i t30).b % 9 + (L.getD i t30).c), (nowC L i).looked + ((L.getD i t30).a / 200 + (L.getD i t30).b % 9), (nowC L i).broken + (L.getD i t30).a / 200, 0⟩
theorem bt_at {L : List T3} (hL : ∀ t ∈ L, BT t) {i : Nat} (h : i < L.length) : BT (L.getD i t30) := hL _ (getD_mem h)
theorem now_bd {L : List T3} (hL : ∀ t ∈ L, BT t) : ∀ i, i ≤ L.length → 0 ≤ (nowC L i).broken ∧ (nowC L i).broken ≤ (nowC L i).looked ∧ (nowC L i).looked ≤ (nowC L i).seen ∧ (nowC L i).seen ≤ 1000 * ((i : Nat) : Int)
  | 0, _ => ⟨Int.le_refl _, Int.le_refl _, Int.le_refl _, Int.le_refl _⟩
  | i + 1, h => by
    have ih := now_bd hL i (by omega)
    obtain ⟨h1, h2, h3⟩ := bt_at hL (show i < L.length by omega)
    simp only [nowC]
    omega
theorem now_le {L : List T3} (hL : ∀ t ∈ L, BT t) (k : Nat) : ∀ i, k ≤ i → i ≤ L.length → (nowC L k).broken ≤ (nowC L i).broken ∧ (nowC L k).looked ≤ (nowC L i).looked ∧ (nowC L k).seen ≤ (nowC L i).seen
  | 0, h, _ => by rw [show k = 0 by omega]; exact ⟨Int.le_refl _, Int.le_refl _, Int.le_refl _⟩
  | i + 1, h, hl => by
    by_cases e : k = i + 1
    · rw [e]; exact ⟨Int.le_refl _, Int.le_refl _, Int.le_refl _⟩
    · have ih := now_le hL k i (by omega) (by omega)
      obtain ⟨h1, h2, h3⟩ := bt_at hL (show i < L.length by omega)
      simp only [nowC]
      omega
def sndC (key : Int) (L : List T3) (j : Nat) : Ct := signC key (nowC L (j + 1))
def sentL (key : Int) (L : List T3) (n : Nat) : List Ct := (List.range n).map (sndC key L)
theorem sent_len (key : Int) (L : List T3) (n : Nat) : (sentL key L n).length = n := by simp [sentL]
theorem sent_at {key : Int} {L : List T3} {n j : Nat} (h : j < n) : (sentL key L n).getD j ct0 = sndC key L j := by
  rw [List.getD_eq_getElem?_getD]; simp [sentL, h]
theorem sent_row {key : Int} {L : List T3} {i n : Nat} {c : Ct} (hn : n = i) (hc : c = sndC key L i) : ((sentL key L i).map encK).take n ++ [encK c] = (sentL key L (i + 1)).map encK := by
  rw [List.take_of_length_le (by simp [sent_len]; omega), hc]; simp [sentL, List.range_succ]
def cameL (q : Nat → Bool) (S : List Ct) : Nat → List Ct
  | 0 => []
  | j + 1 => if q j then [S.getD j ct0] ++ cameL q S j else cameL q S j
def lastL (q : Nat → Bool) (S : List Ct) : Nat → Ct
  | 0 => ct0
  | j + 1 => if q j then S.getD j ct0 else lastL q S j
theorem came_yes {q : Nat → Bool} {S : List Ct} {j : Nat} (h : q j = true) : cameL q S (j + 1) = [S.getD j ct0] ++ cameL q S j := by simp [cameL, h]
theorem came_no {q : Nat → Bool} {S : List Ct} {j : Nat} (h : q j = false) : cameL q S (j + 1) = cameL q S j := by simp [cameL, h]
theorem last_yes {q : Nat → Bool} {S : List Ct} {j : Nat} (h : q j = true) : lastL q S (j + 1) = S.getD j ct0 := by simp [lastL, h]
theorem last_no {q : Nat → Bool} {S : List Ct} {j : Nat} (h : q j = false) : lastL q S (j + 1) = lastL q S j := by simp [lastL, h]
theorem came_len (q : Nat → Bool) (S : List Ct) : ∀ j, (cameL q S j).length ≤ j
  | 0 => Nat.le_refl _
  | j + 1 => by
    have := came_len q S j
    cases h : q j
    · rw [came_no h]; omega
    · rw [came_yes h]; simp; omega
structure SOk (key : Int) (s : Nat → Ct) (n : Nat) : Prop where
  right : ∀ k, k < n → RightC [key] (s k)
  mach : ∀ k, (s k).machine = 0
  prom : ∀ k, (s k).promise = 5
  seq : ∀ k, (s k).seq = (k : Int) + 1
  mono : ∀ k j, k ≤ j → j < n → (s k).broken ≤ (s j).broken ∧ (s k).looked ≤ (s j).looked ∧ (s k).seen ≤ (s j).seen
theorem came_all {key : Int} {s : Nat → Ct} {q : Nat → Bool} {S : List Ct} {n : Nat} (hs : SOk key s n) (hS : ∀ k, k < n → S.getD k ct0 = s k) : ∀ j, j ≤ n →
    ((cameL q S j).map Ct.seq).Nodup ∧ (∀ c ∈ cameL q S j, ∃ k, k < j ∧ c = s k) ∧ (cameL q S j = [] ∨ ∃ k, k < j ∧ lastL q S j = s k ∧ s k ∈ cameL q S j ∧ ∀ c ∈ cameL q S j, ∃ i, i ≤ k ∧ c = s i)
  | 0, _ => ⟨List.nodup_nil, fun c h => (by cases h), .inl rfl⟩
  | j + 1, h => by
    obtain ⟨h1, h2, h3⟩ := came_all hs hS (q := q) j (by omega)
    cases e : q j
    · rw [came_no e, last_no e]
      refine ⟨h1, fun c hc => ?_, ?_⟩
      · obtain ⟨k, hk, q⟩ := h2 c hc; exact ⟨k, by omega, q⟩
      · rcases h3 with z | ⟨k, hk, z⟩
        · exact .inl z
        · exact .inr ⟨k, by omega, z⟩
    · rw [came_yes e, last_yes e, hS j (by omega)]
      refine ⟨?_, fun c hc => ?_, .inr ⟨j, by omega, rfl, by simp, fun c hc => ?_⟩⟩
      · rw [List.map_append, List.map_cons, List.map_nil]
        refine List.nodup_cons.2 ⟨fun hm => ?_, h1⟩
        obtain ⟨c, hc, he⟩ := List.mem_map.1 hm
        obtain ⟨k, hk, rfl⟩ := h2 c hc
        rw [hs.seq, hs.seq] at he; omega
      · rcases List.mem_append.1 hc with z | z
        · exact ⟨j, by omega, List.mem_singleton.1 z⟩
        · obtain ⟨k, hk, q⟩ := h2 c z; exact ⟨k, by omega, q⟩
      · rcases List.mem_append.1 hc with z | z
        · exact ⟨j, Nat.le_refl _, List.mem_singleton.1 z⟩
        · obtain ⟨k, hk, q⟩ := h2 c z; exact ⟨k, by omega, q⟩
theorem seqs_len {L : List Ct} (h : (L.map Ct.seq).Nodup) : (seqsOf L).length = L.length := by
  have a := nodup_sub (seqs_nd L) (m := L.map Ct.seq) fun x hx => by
    obtain ⟨c, hc, rfl⟩ := seqs_mem.1 hx
    exact List.mem_map.2 ⟨c, hc, rfl⟩
  have b := nodup_sub h (m := seqsOf L) fun x hx => by
    obtain ⟨c, hc, rfl⟩ := List.mem_map.1 hx
    exact seqs_mem.2 ⟨c, hc, rfl⟩
  simp at a b; omega
theorem mx_is {f : Ct → Int} {L : List Ct} {d : Ct} (h : d ∈ L) (h0 : 0 ≤ f d) (hm : ∀ c ∈ L, f c ≤ f d) : mx f L = f d := by
  refine Int.le_antisymm ?_ ((mx_ge f L 0).2 d h)
  rcases mx_at f L 0 with e | ⟨c, hc, e⟩
  · unfold mx; rw [e]; exact h0
  · unfold mx; rw [e]; exact hm c hc
theorem gath_one {key : Int} {L : List Ct} (h : ∀ c ∈ L, RelC [key] 5 c ∧ c.machine = 0) : gathS [key] L 5 = ⟨5, oneIf L, mx Ct.seen L, mx Ct.looked L, mx Ct.broken L, misL L⟩ := by
  have e : relL [key] 5 ((0 : Nat) : Int) L = L := by
    unfold relL
    refine List.filter_eq_self.2 fun c hc => ?_
    rw [decide_eq_true_eq]
    exact ⟨(h c hc).1, (h c hc).2⟩
  rw [gath_eq]
  unfold gathR
  simp only [List.length_cons, List.length_nil, Nat.zero_add, sumN, e, Int.zero_add]
theorem came_rel {key : Int} {s : Nat → Ct} {q : Nat → Bool} {S : List Ct} {n : Nat} (hs : SOk key s n) (hS : ∀ k, k < n → S.getD k ct0 = s k) : ∀ c ∈ cameL q S n, RelC [key] 5 c ∧ c.machine = 0 := fun c hc => by
  obtain ⟨k, hk, rfl⟩ := (came_all hs hS n (Nat.le_refl _)).2.1 c hc
  exact ⟨⟨hs.prom k, hs.right k hk⟩, hs.mach k⟩
theorem lost_no {key : Int} {q : Nat → Bool} {S : List Ct} {n : Nat} (h : (cameL q S n).length = 0) : gathS [key] (cameL q S n) 5 = ⟨5, 0, 0, 0, 0, 0⟩ := by
  rw [List.length_eq_zero_iff.1 h, gath_one fun c hc => (by cases hc)]
  simp [oneIf, mx, misL, seqsOf]
theorem lost_yes {key : Int} {s : Nat → Ct} {q : Nat → Bool} {S : List Ct} {n : Nat} (hs : SOk key s n) (hS : ∀ k, k < n → S.getD k ct0 = s k) (h : 0 < (cameL q S n).length) :
    gathS [key] (cameL q S n) 5 = ⟨5, 1, (lastL q S n).seen, (lastL q S n).looked, (lastL q S n).broken, (lastL q S n).seq - ((cameL q S n).length : Int)⟩ := by
  obtain ⟨h1, h2, h3⟩ := came_all (q := q) hs hS n (Nat.le_refl _)
  rcases h3 with z | ⟨k, hk, e, hm, ha⟩
  · rw [z] at h; cases h
  · have hr := hs.right k hk
    have key : ∀ c ∈ cameL q S n, c.broken ≤ (s k).broken ∧ c.looked ≤ (s k).looked ∧ c.seen ≤ (s k).seen ∧ c.seq ≤ (s k).seq := fun c hc => by
      obtain ⟨i, hi, rfl⟩ := ha c hc
      have := hs.mono i k hi hk
      exact ⟨this.1, this.2.1, this.2.2, by rw [hs.seq, hs.seq]; omega⟩
    have b := hr.2.2
    rw [gath_one (came_rel hs hS), e]
    unfold misL oneIf
    rw [seqs_len h1, if_neg (fun z => by rw [z] at h; cases h), mx_is hm (by omega) (fun c hc => (key c hc).2.2.1), mx_is hm (by omega) (fun c hc => (key c hc).2.1), mx_is hm (by omega) (fun c hc => (key c hc).1), mx_is hm (by omega) (fun c hc => (key c hc).2.2.2)]
theorem tag_sign (k j : Int) (c : Ct) : tagI k (signC j c) = tagI k c := congrArg (fun l => joinI k (wfold l 6)) (show fldsC (signC j c) = fldsC c from rfl)
theorem snd_tag (key : Int) (L : List T3) (k : Nat) : (sndC key L k).tag = tagI (([key] : List Int).getD (sndC key L k).machine.toNat 0) (sndC key L k) := by
  have h : ([key] : List Int).getD (sndC key L k).machine.toNat 0 = key := rfl
  rw [h]; unfold sndC; rw [tag_sign]; unfold signC; rfl
theorem snd_mach (key : Int) (L : List T3) (k : Nat) : (sndC key L k).machine = 0 := by simp only [sndC, signC, nowC]
theorem snd_prom (key : Int) (L : List T3) (k : Nat) : (sndC key L k).promise = 5 := by simp only [sndC, signC, nowC]
theorem snd_seq (key : Int) (L : List T3) (k : Nat) : (sndC key L k).seq = (k : Int) + 1 := by simp only [sndC, signC, nowC]
theorem sign_fld (k : Int) (c : Ct) : (signC k c).seen = c.seen ∧ (signC k c).looked = c.looked ∧ (signC k c).broken = c.broken := ⟨rfl, rfl, rfl⟩
theorem snd_fld (key : Int) (L : List T3) (k : Nat) : (sndC key L k).seen = (nowC L (k + 1)).seen ∧ (sndC key L k).looked = (nowC L (k + 1)).looked ∧ (sndC key L k).broken = (nowC L (k + 1)).broken := by
  unfold sndC
  generalize nowC L (k + 1) = c
  exact sign_fld key c
theorem snd_right {key : Int} {L : List T3} {k : Nat} (hL : ∀ t ∈ L, BT t) (hn : k < L.length) (hn2 : k < 20) : RightC [key] (sndC key L k) := by
  have h := now_bd hL (k + 1) (by omega)
  obtain ⟨e1, e2, e3⟩ := snd_fld key L k
  have e4 := snd_seq key L k
  have e5 := snd_mach key L k
  have e6 := snd_tag key L k
  rw [← e1, ← e2, ← e3] at h
  generalize sndC key L k = c at *
  exact ⟨by omega, by rw [e5]; exact Int.zero_lt_one, by omega, by omega, by omega, by omega, by omega, by omega, e6⟩
theorem snd_mono {key : Int} {L : List T3} {k j : Nat} (hL : ∀ t ∈ L, BT t) (h : k ≤ j) (hj : j < L.length) : (sndC key L k).broken ≤ (sndC key L j).broken ∧ (sndC key L k).looked ≤ (sndC key L j).looked ∧ (sndC key L k).seen ≤ (sndC key L j).seen := by
  have := now_le hL (k + 1) (j + 1) (by omega) (by omega)
  obtain ⟨e1, e2, e3⟩ := snd_fld key L k
  obtain ⟨d1, d2, d3⟩ := snd_fld key L j
  rw [e1, e2, e3, d1, d2, d3]; exact this
theorem snd_ok {key : Int} {L : List T3} {n : Nat} (hL : ∀ t ∈ L, BT t) (hn : n ≤ L.length) (hn2 : n ≤ 20) : SOk key (sndC key L) n :=
  ⟨fun k hk => snd_right hL (by omega) (by omega), snd_mach key L, snd_prom key L, snd_seq key L, fun k j h hj => snd_mono hL h (by omega)⟩
theorem lost_yes2 {key : Int} {s : Nat → Ct} {q : Nat → Bool} {S : List Ct} {n m : Nat} (hs : SOk key s n) (hS : ∀ k, k < n → S.getD k ct0 = s k) (hm : m = n) (h : 0 < (cameL q S m).length) :
    gathS [key] (cameL q S m) 5 = ⟨5, 1, (lastL q S m).seen, (lastL q S m).looked, (lastL q S m).broken, (lastL q S m).seq - ((cameL q S m).length : Int)⟩ := by
  rw [hm] at h ⊢; exact lost_yes hs hS h
theorem last_bd {key : Int} {s : Nat → Ct} {q : Nat → Bool} {S : List Ct} {n : Nat} (hs : SOk key s n) (hS : ∀ k, k < n → S.getD k ct0 = s k) (j : Nat) (hj : j ≤ n) : 0 ≤ (lastL q S j).seq ∧ (lastL q S j).seq ≤ (j : Int) := by
  induction j with
  | zero => exact ⟨Int.le_refl _, Int.le_refl _⟩
  | succ j ih =>
    have ih := ih (by omega)
    cases e : q j
    · rw [last_no e]; omega
    · rw [last_yes e, hS j (by omega), hs.seq]; omega
abbrev bitE (w : Int) (j : Nat) : Int := bits .and .u32 (Int.fdiv w (2 ^ (min (((j : Nat) : Int) : Int).toNat (IntKind.bits .u32)))) 1
theorem sent_same {key : Int} {L : List T3} {n : Nat} : ∀ k, k < n → (sentL key L n).getD k ct0 = sndC key L k := fun k h => sent_at h
theorem came_row {q : Nat → Bool} {S : List Ct} {j n : Nat} (h : q j = true) (hn : n = (cameL q S j).length) : [encK (S.getD j ct0)] ++ (((cameL q S j).map encK).drop 0).take n = (cameL q S (j + 1)).map encK := by
  rw [came_yes h, List.drop_zero, List.take_of_length_le (by rw [List.length_map]; omega), List.map_append]; rfl
theorem came_n {q : Nat → Bool} {S : List Ct} {j : Nat} (h : q j = true) : 1 + ((((cameL q S j).map encK).drop 0).take (cameL q S j).length).length = (cameL q S (j + 1)).length := by
  rw [came_yes h]; simp; omega
end Go.Proofs.Ytglfbdicclepcaa
