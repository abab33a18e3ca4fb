/- The contracts of lines.all and of its iterator. -/
import Derived.Test.YtapanjfheddfnaaGreatDoorIter
import Derived.Deep.LoopGhost
namespace Go.Proofs.YtapanjfheddfnaaGreatDoor
open Go.RowKit Go.Shelf
attribute [local go_sem] Oper.semAt_some
attribute [local go_sem high] ext_to ext_from
attribute [local go_sem] ext_list app_list size_list

theorem cut_rest_lt (s : Bs) (h : (Lib.cut s [10]).2.2 = true) : (Lib.cut s [10]).2.1.length < s.length := by
  unfold Lib.cut at h ⊢
  split at h
  · rename_i h0
    rw [if_pos h0]
    have : s ≠ [] := by intro e; subst e; revert h0; decide
    have : 0 < s.length := List.length_pos_iff.2 this
    simp; omega
  · cases h
theorem cut_no_rest (s : Bs) (h : (Lib.cut s [10]).2.2 = false) : Lib.cut s [10] = (s, [], false) := by
  unfold Lib.cut at h ⊢
  split
  · rename_i h0; rw [if_pos h0] at h; cases h
  · rfl
theorem linesF_fuel : ∀ (n : Nat) (s : Bs), s.length ≤ n → linesF n s = linesL s := by
  intro n
  induction n using Nat.strongRecOn with
  | _ n ih =>
    intro s hs
    unfold linesL
    cases n with
    | zero => have : s = [] := List.eq_nil_of_length_eq_zero (by omega); subst this; rfl
    | succ n =>
      by_cases h0 : s = []
      · subst h0; simp [linesF]
      · obtain ⟨k, hk⟩ : ∃ k, s.length = k + 1 := ⟨s.length - 1, by have := List.length_pos_iff.2 h0; omega⟩
        rw [hk]
        simp only [linesF, if_neg h0]
        split
        · rename_i h1
          have := cut_rest_lt s h1
          rw [ih n (by omega) _ (by omega)]
          rcases Nat.lt_or_ge k (n + 1) with q | q
          · rw [ih k q _ (by omega)]
          · have : k = n := by omega
            subst this; rw [ih k (by omega) _ (by omega)]
        · rfl
theorem linesL_nil : linesL [] = [] := rfl
theorem linesL_ends (s : Bs) (h0 : s ≠ []) (h : (Lib.cut s [10]).2.2 = true) : linesL s = ((Lib.cut s [10]).1 ++ [10]) :: linesL (Lib.cut s [10]).2.1 := by
  obtain ⟨k, hk⟩ : ∃ k, s.length = k + 1 := ⟨s.length - 1, by have := List.length_pos_iff.2 h0; omega⟩
  have := cut_rest_lt s h
  conv => lhs; unfold linesL
  rw [hk]
  simp only [linesF, if_neg h0, h, if_true]
  rw [linesF_fuel k _ (by omega)]
theorem linesL_last (s : Bs) (h0 : s ≠ []) (h : (Lib.cut s [10]).2.2 = false) : linesL s = [s] := by
  obtain ⟨k, hk⟩ : ∃ k, s.length = k + 1 := ⟨s.length - 1, by have := List.length_pos_iff.2 h0; omega⟩
  unfold linesL
  rw [hk]
  simp only [linesF, if_neg h0, h]
  rw [cut_no_rest s h]; rfl

def boxLen (W : World) (Bx : Nat) : Nat := match W.heap[Bx]? with
  | some (.cells c _ _) => (match (c[0]? : Option Value) with | some (Value.string s) => s.size | _ => 0)
  | _ => 0
theorem boxLen_eq {W : World} {Bx : Nat} {t : TypeId} {l : Bs} (h : Boxed W Bx t (S l)) : boxLen W Bx = l.length := by
  unfold boxLen
  rw [show W.heap[Bx]? = _ from h]
  rfl

theorem iter81 (Bx : Nat) (s : Bs) (hs : s.length < 4294967281) (w : World) (G : Glob w) (h8 : 8 ≤ Bx) (hb : Boxed w Bx 9 (S s)) : Iter81 Bx s w := by
  intro n l J W hn hW hWb hJ hY h0
  have hbW : Boxed W Bx 9 (S s) := hWb.trans hb
  have HJ := Lib.hid hJ
  have HY := Lib.hid hY
  clear hJ hY
  refine callsIn_of_wp Tryz.func81 rfl trivial ?_ rfl
  simp only [Tryz.ntmps81, List.size_toArray, List.length_cons, List.length_nil, Nat.reduceAdd, Nat.reduceSub, Array.replicate_succ, Array.replicate_zero, List.push_toArray, List.append_toArray, List.nil_append, List.cons_append]
  gi_wp2_with fail
  gi_loopw [3] (fun _ wr => ∃ (t : Bs) (pre : List Bs), Boxed wr Bx 9 (S t) ∧ Hid (t.length ≤ s.length ∧ linesL s = pre ++ linesL t) ∧ J pre wr ∧ Below 8 w wr) (fun _ wr => boxLen wr Bx)
  case atStart => exact ⟨s, [], hbW, ⟨Nat.le_refl _, rfl⟩, h0, hW⟩
  case round =>
    obtain ⟨t, pre, hbt, HL, hJt, hWt⟩ := hrel
    have hc := hbt.cell
    have hfz := hbt.frozen
    by_cases ht : t = []
    · subst ht
      gi_wp2
      go_end0
      refine ⟨⟨_, rfl⟩, ?_⟩
      have := HL.out.2
      rw [linesL_nil, List.append_nil] at this
      rw [this]
      exact hJt
    · have hem : t.isEmpty = false := by simpa using ht
      have htl : (⟨t.toArray⟩ : ByteArray).size < 4294967281 := by have := HL.out.1; show t.length < _; omega
      obtain ⟨m, hm⟩ := (G.below hWt (by omega)).ml
      obtain ⟨d, hd⟩ : ∃ d, Lib.cut t [10] = d := ⟨_, rfl⟩
      obtain ⟨d1, d2, d3⟩ := d
      have HD : Hid (Lib.cut t [10] = (d1, d2, d3)) := hd
      cases d3
      · -- the last line
        have hcn := cut_no_rest t (by rw [hd])
        rw [hd] at hcn
        obtain ⟨rfl, rfl⟩ : d1 = t ∧ d2 = [] := by simpa using hcn
        have hll := linesL_last d1 ht (by rw [hd])
        have hall : linesL s = pre ++ [d1] := by rw [HL.out.2, hll]
        clear hd hcn ht
        have hlast : linesL s = pre ++ [d1] := hall
        have hpre : pre ++ [d1] <+: linesL s := by rw [hlast]; exact List.prefix_refl _
        have HLA := Lib.hid hlast
        clear hll hall hlast
        gi_wp2_with fail
        refine ⟨trivial, (callsIn_wide.2 (Tryz.strings_Cut ⟨d1.toArray⟩ ⟨#[10]⟩ m _ htl hm)).mono ?_⟩
        show ∀ e w', e = Ending.returned (.tuple #[S (Lib.cut d1 [10]).1, S (Lib.cut d1 [10]).2.1, .bool (Lib.cut d1 [10]).2.2]) ∧ _ → _
        rw [HD.out]
        rintro e w1 ⟨rfl, n1, rfl⟩
        have hJ1 : J pre (wr.drewN n1) := HJ.out _ _ _ none hJt ⟨rfl, rfl, rfl, Nat.le_refl _, fun _ _ _ => rfl⟩ (fun r e => by cases e)
        obtain ⟨fn, tmps, assign, body, hy, hR⟩ := HY.out pre d1 _ hJ1 hpre
        gi_wp2
        refine hR.mono ?_
        rintro e W3 ⟨rfl, hJ3, hk3⟩
        have hb3 : Boxed W3 Bx 9 (S d1) := hk3.2.trans hbt
        have hc3 := hb3.cell
        have hf3 := hb3.frozen
        gi_wp2
        go_roundw
        case rel =>
          refine ⟨[], pre ++ [d1], hb3.set _, ⟨Nat.zero_le _, by rw [HLA.out, linesL_nil, List.append_nil]⟩, ?_, ?_⟩
          · exact HJ.out _ _ _ (some Bx) hJ3 (grownBy_setCell' _ _ _) (fun r e => by cases e; rfl)
          · exact ((below_drewN' hWt n1).trans hk3.1).setCell (p := ⟨Bx, 0, none⟩) h8 _
        case measure =>
          rw [boxLen_eq hbt, boxLen_eq (hb3.set (S []))]
          cases d1
          · simp at hem
          · simp
      · -- a line that ends
        have hll := linesL_ends t ht (by rw [hd])
        rw [hd] at hll
        have hdl : d2.length < t.length := by have := cut_rest_lt t (by rw [hd]); rw [hd] at this; exact this
        have hlast : linesL s = pre ++ [d1 ++ [10]] ++ linesL d2 := by rw [HL.out.2, hll]; simp
        have hpre : pre ++ [d1 ++ [10]] <+: linesL s := by rw [hlast]; exact List.prefix_append _ _
        have hd1 : (d1.length : Int) + 1 ≤ 9223372036854775807 := by
          have h1 : d1.length ≤ t.length := by have := cut_le t [10]; rw [hd] at this; exact this
          have h2 := HL.out.1
          omega
        have HLA := Lib.hid hlast
        clear hll hlast hd ht
        gi_wp2_with fail
        refine ⟨trivial, (callsIn_wide.2 (Tryz.strings_Cut ⟨t.toArray⟩ ⟨#[10]⟩ m _ htl hm)).mono ?_⟩
        show ∀ e w', e = Ending.returned (.tuple #[S (Lib.cut t [10]).1, S (Lib.cut t [10]).2.1, .bool (Lib.cut t [10]).2.2]) ∧ _ → _
        rw [HD.out]
        rintro e w1 ⟨rfl, n1, rfl⟩
        have hJ1 : J pre (wr.drewN n1) := HJ.out _ _ _ none hJt ⟨rfl, rfl, rfl, Nat.le_refl _, fun _ _ _ => rfl⟩ (fun r e => by cases e)
        obtain ⟨fn, tmps, assign, body, hy, hR⟩ := HY.out pre (d1 ++ [10]) _ hJ1 hpre
        gi_wp2
        refine hR.mono ?_
        rintro e W3 ⟨rfl, hJ3, hk3⟩
        have hb3 : Boxed W3 Bx 9 (S t) := hk3.2.trans hbt
        have hc3 := hb3.cell
        have hf3 := hb3.frozen
        gi_wp2
        go_roundw
        case rel =>
          refine ⟨d2, pre ++ [d1 ++ [10]], hb3.set _, ⟨by have := HL.out.1; omega, HLA.out⟩, ?_, ?_⟩
          · exact HJ.out _ _ _ (some Bx) hJ3 (grownBy_setCell' _ _ _) (fun r e => by cases e; rfl)
          · exact ((below_drewN' hWt n1).trans hk3.1).setCell (p := ⟨Bx, 0, none⟩) h8 _
        case measure =>
          rw [boxLen_eq hbt, boxLen_eq (hb3.set (S d2))]
          exact hdl

theorem all_calls (s : Bs) (w : World) : Calls Tryz.prog 47 #[S s] w fun e w' => e = .returned (.func (.func 81) #[] #[.pointer (some ⟨w.heap.size, 0, none⟩)]) ∧ w' = w.alloc (.cells #[S s] 9) := by
  go_enter Tryz.func47, Tryz.ntmps47
  go_wp2
  go_ret
  exact ⟨rfl, rfl⟩
end Go.Proofs.YtapanjfheddfnaaGreatDoor
