/- What the laws read of their input; few. -/
import Derived.Test.YtapanjfheddfnaaGreatDoorRow
import Derived.IntWalk
namespace Go.Proofs.YtapanjfheddfnaaGreatDoor
open Go.RowKit Go.Shelf
attribute [local go_sem high] ext_to ext_from
attribute [local go_sem] ext_list app_list size_list

/-- A slice of texts as the caller hands it: its cells may be read. -/
def ReadsAt (W : World) (v : Value) (l : List Bs) : Prop :=
  ∃ a c, v = .slice a l.length c ∧ (l ≠ [] → ∃ g off, a = some ⟨g, off, none⟩ ∧ ∀ j x, l[j]? = some x → W.cell? ⟨g, off + j, none⟩ = some (S x))
theorem ReadsAt.below {W W' : World} {v : Value} {l : List Bs} (h : ReadsAt W v l) (hb : Below W.heap.size W W') : ReadsAt W' v l := by
  obtain ⟨a, c, hv, hc⟩ := h
  refine ⟨a, c, hv, fun hn => ?_⟩
  obtain ⟨g, off, ha, hr⟩ := hc hn
  exact ⟨g, off, ha, fun j x hx => (World.cell?_of_block (hb.block g (World.block_lt_of_cell? _ _ (hr j x hx)))).trans (hr j x hx)⟩
def sumL (l : List Bs) : Nat := (l.map List.length).sum
def fewL (l : List Bs) : Bool := decide (l.length ≤ 60) && decide (sumL (l.take 100) ≤ 6000)
theorem sumL_take_succ (l : List Bs) (i : Nat) (x : Bs) (h : l[i]? = some x) : sumL (l.take (i + 1)) = sumL (l.take i) + x.length := by
  unfold sumL
  rw [List.take_add_one, h]
  simp
theorem sumL_take_le (l : List Bs) (i : Nat) : sumL (l.take i) ≤ sumL l := by
  unfold sumL
  conv => rhs; rw [← List.take_append_drop i l]
  rw [List.map_append, List.sum_append]
  omega

set_option maxHeartbeats 2000000 in
set_option maxRecDepth 100000 in
theorem few_calls (w : World) (v : Value) (l : List Bs) (h : ReadsAt w v l) (hn : l.length ≤ 2000000) (hs : sumL l ≤ 2000000) :
    Calls Tryz.prog 9 #[v] w fun e w' => e = .returned (.bool (fewL l)) ∧ w' = w := by
  obtain ⟨a, c, rfl, hc⟩ := h
  have HC := Lib.hid hc
  have HF : Hid (fewL l = (decide (l.length ≤ 60) && decide (sumL (l.take 100) ≤ 6000))) := rfl
  rw [HF.out]
  clear hc HF
  go_enter Tryz.func9, Tryz.ntmps9
  go_wp2_with fail
  go_loop [3, 4] (fun v3 v4 => ∃ i : Nat, i ≤ l.length ∧ i ≤ 100 ∧ v3 = .int .i64 (sumL (l.take i)) ∧ v4 = .int .i64 i) (fun _ v4 => l.length - (intOf v4).toNat)
  case atStart => exact ⟨0, Nat.zero_le _, by omega, by simp [sumL], rfl⟩
  case round =>
    obtain ⟨i, hi, hi2, rfl, rfl⟩ := hrel
    have hsl := sumL_take_le l i
    by_cases h1 : i < l.length
    · have d1 : decide ((i : Int) < (l.length : Int)) = true := by simp; omega
      by_cases h2 : i < 100
      · have d2 : decide ((i : Int) < 100) = true := by simp; omega
        obtain ⟨g, off, ha, hr⟩ := HC.out (by intro e; rw [e] at h1; simp at h1)
        have hx : l[i]? = some l[i] := List.getElem?_eq_getElem h1
        have c1 := hr i _ hx
        have hsum := sumL_take_succ l i _ hx
        have hle2 := sumL_take_le l (i + 1)
        have hi0 : (0 : Int) ≤ (i : Int) := by omega
        have hil : (i : Int) < (l.length : Int) := by omega
        have w1 : IntKind.i64.wrap ((sumL (l.take i) : Int) + ((l[i]).length : Int)) = ((sumL (l.take (i + 1)) : Nat) : Int) := by rw [IntWalk.i64_in _ ⟨by omega, by omega⟩]; omega
        have w2 : IntKind.i64.wrap ((i : Int) + 1) = ((i + 1 : Nat) : Int) := by rw [IntWalk.i64_in _ ⟨by omega, by omega⟩]; omega
        rw [IntWalk.i64_left] at w1
        have W1 := Lib.hid w1
        subst ha
        clear hx w1
        go_wp2
        refine ⟨⟨i + 1, by omega, by omega, ?_, ?_⟩, ?_⟩
        · rw [show ((sumL (l.take i) : Int) + ((l[i]).length : Int)) = ((sumL (l.take (i + 1)) : Nat) : Int) by omega]
        · simp
        · simp only [intOf]; omega
      · have d2 : decide ((i : Int) < 100) = false := by simp; omega
        have d3 : decide ((l.length : Int) ≤ 60) = false := by simp; omega
        go_wp2
        go_ret
        have : decide (l.length ≤ 60) = false := by simp; omega
        rw [this]
        exact ⟨rfl, rfl⟩
    · have d1 : decide ((i : Int) < (l.length : Int)) = false := by simp; omega
      have ht : l.take i = l := List.take_of_length_le (by omega)
      have ht2 : l.take 100 = l := List.take_of_length_le (by omega)
      rw [ht]
      have HT2 := Lib.hid ht2
      clear ht2 ht hsl
      by_cases h6 : l.length ≤ 60
      · have d3 : decide ((l.length : Int) ≤ 60) = true := by simp; omega
        have e3 : decide (l.length ≤ 60) = true := by simpa using h6
        have e4 : decide ((sumL l : Int) ≤ 6000) = decide (sumL l ≤ 6000) := by rw [decide_eq_decide]; omega
        have E := Lib.hid (And.intro e3 e4)
        clear e3 e4
        go_wp2
        go_ret
        rw [HT2.out, ← E.out.2]
        first | exact ⟨rfl, rfl⟩ | exact ⟨by simp, rfl⟩
      · have d3 : decide ((l.length : Int) ≤ 60) = false := by simp; omega
        have e3 : decide (l.length ≤ 60) = false := by simpa using h6
        have E := Lib.hid e3
        clear e3
        go_wp2
        go_ret
        first | (rw [E.out]; exact ⟨rfl, rfl⟩) | exact ⟨rfl, rfl⟩ | exact ⟨by simp, rfl⟩
end Go.Proofs.YtapanjfheddfnaaGreatDoor
