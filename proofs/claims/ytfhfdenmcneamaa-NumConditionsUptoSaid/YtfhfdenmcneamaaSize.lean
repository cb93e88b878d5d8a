/- The contracts of paroleref01.Size and paroleref01.SizeC: the numbers of nodes. -/
import Derived.Test.YtfhfdenmcneamaaNumEval
import Derived.Test.YtfhfdenmcneamaaChecked
import Derived.Outline
import Derived.ProofKit
import Derived.Lib.Hide
set_option linter.unusedVariables false
namespace Go.Proofs.Ytfhfdenmcneamaa
open Go.ChangeShapes Go.WideShapes Go.ChangeAt Go.RowKit

theorem Ex.nodesL_append (l m : List Ex) : Ex.nodesL (l ++ m) = Ex.nodesL l + Ex.nodesL m := by
  induction l with
  | nil => simp [Ex.nodesL]
  | cons x l ih => simp [Ex.nodesL, ih]; omega

theorem Co.nodesL_append (l m : List Co) : Co.nodesL (l ++ m) = Co.nodesL l + Co.nodesL m := by
  induction l with
  | nil => simp [Co.nodesL]
  | cons x l ih => simp [Co.nodesL, ih]; omega

theorem Ex.nodesL_take (l : List Ex) (j : Nat) (h : j < l.length) : Ex.nodesL (l.take (j + 1)) = Ex.nodesL (l.take j) + l[j].nodes := by
  rw [List.take_succ_eq_append_getElem h, Ex.nodesL_append]; simp [Ex.nodesL]

theorem Co.nodesL_take (l : List Co) (j : Nat) (h : j < l.length) : Co.nodesL (l.take (j + 1)) = Co.nodesL (l.take j) + l[j].nodes := by
  rw [List.take_succ_eq_append_getElem h, Co.nodesL_append]; simp [Co.nodesL]

theorem Ex.nodesL_take_le (l : List Ex) (j : Nat) : Ex.nodesL (l.take j) ≤ Ex.nodesL l := by
  have := Ex.nodesL_append (l.take j) (l.drop j)
  rw [List.take_append_drop] at this
  omega

theorem Co.nodesL_take_le (l : List Co) (j : Nat) : Co.nodesL (l.take j) ≤ Co.nodesL l := by
  have := Co.nodesL_append (l.take j) (l.drop j)
  rw [List.take_append_drop] at this
  omega

set_option maxHeartbeats 1000000 in
theorem size_any (k : Nat) : ∀ (e : Ex) (_ : e.nodes ≤ k) (_ : e.nodes ≤ 1099511627776) (a : Option Addr) (cap : Nat) (w : World), ExsV w e.a a cap →
    Calls Try.prog 15 #[exVal e a cap] w fun r w' => r = .returned (.int .i64 e.nodes) ∧ Below w.heap.size w w' := by
  induction k with
  | zero => intro e he; have := e.nodes_pos; omega
  | succ k ih =>
    intro e he hbig a cap w h
    have Hd := Lib.hid e.nodes_a
    have Hn := Lib.hid (fun x (hx : x ∈ e.a) => Ex.nodes_lt hx)
    have HS := Lib.hid h
    have IH := Lib.hid ih
    have hlen : e.a.length ≤ 9223372036854775807 := Nat.le_trans h.cap_le.1 h.cap_le.2
    clear h ih
    unfold exVal
    go_enter Try.func15, Try.ntmps15
    go_wp2_with fail
    have hb0 : Below w.heap.size w (w.alloc (.cells #[.int .i64 e.op, .int .i64 e.n, .int .i64 e.v, .slice a e.a.length cap] 29)) := (Below.refl _ _).alloc (Nat.le_refl _) _
    go_loopw [3, 4] (fun n i wr => ∃ k : Nat, k ≤ e.a.length ∧ i = .int .i64 k ∧ n = .int .i64 ((Ex.nodesL (e.a.take k) + 1 : Nat)) ∧ Below (w.alloc (.cells #[.int .i64 e.op, .int .i64 e.n, .int .i64 e.v, .slice a e.a.length cap] 29)).heap.size (w.alloc (.cells #[.int .i64 e.op, .int .i64 e.n, .int .i64 e.v, .slice a e.a.length cap] 29)) wr) (fun _ i _ => e.a.length - (intOf i).toNat)
    case atStart => exact ⟨0, Nat.zero_le _, rfl, rfl, Below.refl _ _⟩
    case round =>
      obtain ⟨j, hj, rfl, rfl, hw⟩ := hrel
      have c3 : wr.cell? ⟨w.heap.size, 3, none⟩ = some (.slice a e.a.length cap) := by
        rw [hw.cell (by simp)]; go_simp
      by_cases hlt : j < e.a.length
      · have hk := HS.out.keep ((Keeps.alloc w _).trans (keepsOf hw))
        obtain ⟨b, off, ya, yc, rfl, hc, hk⟩ := hk.elem j hlt
        have hm := Ex.nodesL_take e.a j hlt
        have hnode := Hn.out _ (List.getElem_mem hlt)
        have hl2 := Ex.nodesL_take_le e.a (j + 1)
        have hl1 := Hd.out
        have HM := Lib.hid hm
        have IHj := Lib.hid (IH.out e.a[j] (by omega) (by omega) ya yc)
        have hsum : (Ex.nodesL (e.a.take j) + 1) + e.a[j].nodes ≤ 1099511627776 := by omega
        clear hm hl2 hl1
        generalize e.a[j] = x at *
        generalize hq : Ex.nodesL (e.a.take j) = m at *
        obtain ⟨h0, h1, h2, h3⟩ := hc
        have HK := Lib.hid hk
        clear hk
        go_wp2_with (go_at_call 15; refine (IHj.out _ HK.out).mono ?_; rintro r w2 ⟨rfl, hb⟩)
        go_roundw
        case rel => exact ⟨j + 1, by omega, by go_num, by rw [HM.out]; (try rw [hq]); congr 1; omega, hw.trans (hb.mono hw.size)⟩
        case measure => simp [intOf]; omega
      · obtain rfl : j = e.a.length := by omega
        have ht : e.a.take e.a.length = e.a := List.take_length
        rw [ht]
        clear ht
        have hl1 := Hd.out
        go_wp2_with fail
        go_ret
        exact ⟨ret_int (by rw [Hd.out]), hb0.trans (hw.mono hb0.size)⟩

set_option maxHeartbeats 2000000 in
theorem sizeC_any (k : Nat) : ∀ (e : Co) (_ : e.nodes ≤ k) (_ : e.nodes ≤ 1099511627776) (a : Option Addr) (cap : Nat) (ca : Option Addr) (ccap : Nat) (w : World), CoV w e a cap ca ccap →
    Calls Try.prog 18 #[coVal e a cap ca ccap] w fun r w' => r = .returned (.int .i64 e.nodes) ∧ Below w.heap.size w w' := by
  induction k with
  | zero => intro e he; have := e.nodes_pos; omega
  | succ k ih =>
    intro e he hbig a cap ca ccap w h
    have Hd := Lib.hid e.nodes_ac
    have Hn := Lib.hid (fun x (hx : x ∈ e.c) => Co.nodes_lt hx)
    have Hm := Lib.hid (fun x (hx : x ∈ e.a) => Co.nodes_lt_a hx)
    have HS := Lib.hid h
    have IH := Lib.hid ih
    have hlen : e.a.length ≤ 9223372036854775807 := Nat.le_trans h.a.cap_le.1 h.a.cap_le.2
    have hlenC : e.c.length ≤ 9223372036854775807 := Nat.le_trans h.c.cap_le.1 h.c.cap_le.2
    clear h ih
    unfold coVal
    go_enter Try.func18, Try.ntmps18
    go_wp2_with fail
    obtain ⟨v, hv⟩ : ∃ v : World, v = w.alloc (.cells #[.int .i64 e.op, .slice a e.a.length cap, .slice ca e.c.length ccap] 34) := ⟨_, rfl⟩
    have hb0 : Below w.heap.size w v := hv ▸ (Below.refl _ _).alloc (Nat.le_refl _) _
    have c1 : v.cell? ⟨w.heap.size, 1, none⟩ = some (.slice a e.a.length cap) := by rw [hv]; go_simp
    have c2 : v.cell? ⟨w.heap.size, 2, none⟩ = some (.slice ca e.c.length ccap) := by rw [hv]; go_simp
    rw [← hv]
    clear hv
    go_loopw [3, 4] (fun n i wr => ∃ k : Nat, k ≤ e.a.length ∧ i = .int .i64 k ∧ n = .int .i64 ((Ex.nodesL (e.a.take k) + 1 : Nat)) ∧ Below v.heap.size v wr) (fun _ i _ => e.a.length - (intOf i).toNat)
    case atStart => exact ⟨0, Nat.zero_le _, rfl, rfl, Below.refl _ _⟩
    case round =>
      obtain ⟨j, hj, rfl, rfl, hw⟩ := hrel
      have c3 := keepsOf hw _ _ c1
      by_cases hlt : j < e.a.length
      · have hk := HS.out.keep ((keepsOf hb0).trans (keepsOf hw))
        obtain ⟨b, off, ya, yc, rfl, hc, hk⟩ := hk.a.elem j hlt
        have hm := Ex.nodesL_take e.a j hlt
        have hnode := Hm.out _ (List.getElem_mem hlt)
        have hl2 := Ex.nodesL_take_le e.a (j + 1)
        have hl1 := Hd.out
        have HM := Lib.hid hm
        have IHj := Lib.hid (size_any e.a[j].nodes e.a[j] (by omega) (by omega) ya yc)
        have hsum : (Ex.nodesL (e.a.take j) + 1) + e.a[j].nodes ≤ 1099511627776 := by omega
        clear hm hl2 hl1
        generalize e.a[j] = x at *
        generalize hq : Ex.nodesL (e.a.take j) = m at *
        obtain ⟨h0, h1, h2, h3⟩ := hc
        have HK := Lib.hid hk
        clear hk
        go_wp2_with (go_at_call 15; refine (IHj.out _ HK.out).mono ?_; rintro r w2 ⟨rfl, hb⟩)
        go_roundw
        case rel => exact ⟨j + 1, by omega, by go_num, by rw [HM.out]; (try rw [hq]); congr 1; omega, hw.trans (hb.mono hw.size)⟩
        case measure => simp [intOf]; omega
      · obtain rfl : j = e.a.length := by omega
        have ht : e.a.take e.a.length = e.a := List.take_length
        rw [ht]
        clear ht
        clear hlt
        have hsm : Ex.nodesL e.a + 1 ≤ 1099511627776 := by have := Hd.out; omega
        have d2 := keepsOf hw _ _ c2
        have hw0 := hb0.trans (hw.mono hb0.size)
        go_wp2_with fail
        clear c3
        obtain ⟨wo, rfl⟩ : ∃ wo : World, wo = wr := ⟨_, rfl⟩
        generalize hqa : Ex.nodesL e.a = na at *
        go_loopw [3, 5] (fun n i wr => ∃ k : Nat, k ≤ e.c.length ∧ i = .int .i64 k ∧ n = .int .i64 ((na + 1 + Co.nodesL (e.c.take k) : Nat)) ∧ Below wo.heap.size wo wr) (fun _ i _ => e.c.length - (intOf i).toNat)
        case atStart => exact ⟨0, Nat.zero_le _, rfl, by simp [Co.nodesL], Below.refl _ _⟩
        case round =>
          obtain ⟨j, hj, rfl, rfl, hw⟩ := hrel
          have c3 := keepsOf hw _ _ d2
          by_cases hlt : j < e.c.length
          · have hk := HS.out.keep ((keepsOf hw0).trans (keepsOf hw))
            obtain ⟨b, off, ya, yc, za, zc, rfl, hc, hka, hkc⟩ := hk.c.elem j hlt
            have hm := Co.nodesL_take e.c j hlt
            have hnode := Hn.out _ (List.getElem_mem hlt)
            have hl2 := Co.nodesL_take_le e.c (j + 1)
            have hl1 := Hd.out
            have HM := Lib.hid hm
            have IHj := Lib.hid (IH.out e.c[j] (by omega) (by omega) ya yc za zc)
            have hsum : (na + 1 + Co.nodesL (e.c.take j)) + e.c[j].nodes ≤ 1099511627776 := by omega
            clear hm hl2 hl1
            generalize e.c[j] = x at *
            generalize hq : Co.nodesL (e.c.take j) = m at *
            obtain ⟨h0, h1, h2⟩ := hc
            have HK := Lib.hid (CoV.mk hka hkc)
            clear hka hkc hk
            go_wp2_with (go_at_call 18; refine (IHj.out _ HK.out).mono ?_; rintro r w2 ⟨rfl, hb⟩)
            go_roundw
            case rel => exact ⟨j + 1, by omega, by go_num, by rw [HM.out]; (try rw [hq]); congr 1; omega, hw.trans (hb.mono hw.size)⟩
            case measure => simp [intOf]; omega
          · obtain rfl : j = e.c.length := by omega
            have ht : e.c.take e.c.length = e.c := List.take_length
            rw [ht]
            clear ht
            have hsm2 : na + 1 + Co.nodesL e.c ≤ 1099511627776 := by have := Hd.out; omega
            have HQ := Lib.hid hqa
            clear hqa
            go_wp2_with fail
            go_ret
            exact ⟨ret_int (by rw [Hd.out]; omega), hw0.trans (hw.mono hw0.size)⟩

end Go.Proofs.Ytfhfdenmcneamaa
