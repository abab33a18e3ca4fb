/- The contracts of the text functions of package smtp. -/
import Derived.Test.YtapanjfheddfnaaGreatDoorBase
import Derived.Test.YtapanjfheddfnaaGreatDoorPure
import Derived.Test.YtapanjfheddfnaaGreatDoorAnyX
import Derived.WalkSpells
import Derived.Deep.RegionHeld3
import Derived.Deep.DrawnRows
import Derived.WalkLawsBesides
namespace Go.Proofs.YtapanjfheddfnaaGreatDoor
open Go.RowKit
attribute [local go_sem ↓] Go.wp_at_zero Go.wp_at_succ
attribute [local go_sem high] ext_to ext_from
attribute [local go_sem] ext_list app_list size_list

/-! ### great -/
theorem ret_i32 {a b : Int} (h : a = b) : Ending.returned (.int .i32 a) = .returned (.int .i32 b) := by rw [h]
theorem great1_calls (x : Int) (w : World) : Calls Tryz.prog 99 #[.int .i32 x] w fun e w' => e = .returned (.int .i32 (grR x)) ∧ w' = w := by
  by_cases h1 : 97 ≤ x
  · have d1 : decide (97 ≤ x) = true := decide_eq_true h1
    by_cases h2 : x ≤ 122
    · have d2 : decide (x ≤ 122) = true := decide_eq_true h2
      have H : Hid (grR x = x - 32) := by unfold Hid grR; rw [if_pos ⟨h1, h2⟩]
      go_enter Tryz.func99, Tryz.ntmps99
      go_wp2
      go_ret
      exact ⟨ret_i32 (by rw [H.out]; omega), rfl⟩
    · have d2 : decide (x ≤ 122) = false := decide_eq_false h2
      have H : Hid (grR x = x) := by unfold Hid grR; rw [if_neg (fun h => h2 h.2)]
      go_enter Tryz.func99, Tryz.ntmps99
      go_wp2
      go_ret
      exact ⟨ret_i32 H.out.symm, rfl⟩
  · have d1 : decide (97 ≤ x) = false := decide_eq_false h1
    have H : Hid (grR x = x) := by unfold Hid grR; rw [if_neg (fun h => h1 h.1)]
    go_enter Tryz.func99, Tryz.ntmps99
    go_wp2
    go_ret
    exact ⟨ret_i32 H.out.symm, rfl⟩

theorem enters99 : ∀ args w, (callFunc 99 args).run Tryz.prog w = .ok (.enter 99 args) w := enters_of Tryz.func99 (by kernel_rfl) rfl

theorem great_calls (l : Bs) (hs : l.length < 35184372088832) (w : World) (G : Glob w) :
    Calls Tryz.prog 70 #[S l] w fun e w' => e = .returned (S (greatL l)) ∧ Below w.heap.size w w' := by
  have hf : MapGrows Tryz.prog 99 #[] grR w := fun W x hx _ => (great1_calls x W).mono fun e w' ⟨he, hw⟩ => ⟨he, hw ▸ Below.refl _ _⟩
  go_enter Tryz.func70, Tryz.ntmps70
  go_wp2_with (go_at_call 98; refine (Tryz.strings_Map_grows 99 #[] enters99 grR ⟨l.toArray⟩ _ hs hf (fun x hx => by unfold grR; split <;> omega) G.u8).mono ?_; rintro e w' ⟨rfl, hb⟩)
  go_ret
  exact ⟨rfl, hb⟩

/-! ### Trim, IndexAny at " \t" -/
theorem trim_calls (l : Bs) (hs : l.length ≤ 9223372036854775807) (w : World) :
    Calls Tryz.prog 90 #[S l, .string ⟨#[32, 9]⟩] w fun e w' => e = .returned (S (Lib.trimS l blanks)) ∧ Below w.heap.size w w' :=
  Any.strings_Trim_laid Tryz.lays160 (by kernel_rfl) ⟨l.toArray⟩ ⟨#[32, 9]⟩ w hs (by decide) blanks_ascii
theorem trimLeft_calls (l : Bs) (w : World) :
    Calls Tryz.prog 125 #[S l, .string ⟨#[32, 9]⟩] w fun e w' => e = .returned (S (Lib.trimLeftS l blanks)) ∧ Below w.heap.size w w' :=
  Any.strings_TrimLeft_laid Tryz.lays161 (by kernel_rfl) ⟨l.toArray⟩ ⟨#[32, 9]⟩ w (by decide) blanks_ascii

theorem dropWhile_le {α : Type} (q : α → Bool) : ∀ l : List α, (l.dropWhile q).length ≤ l.length
  | [] => Nat.le_refl _
  | x :: l => by
    rw [List.dropWhile_cons]
    have := dropWhile_le q l
    split
    · simp only [List.length_cons]; omega
    · exact Nat.le_refl _
theorem trimLeftS_le (l cs : Bs) : (Lib.trimLeftS l cs).length ≤ l.length := dropWhile_le _ _
theorem trimS_le (l cs : Bs) : (Lib.trimS l cs).length ≤ l.length := by
  unfold Lib.trimS Lib.trimRightS
  refine Nat.le_trans (trimLeftS_le _ _) ?_
  rw [List.length_reverse]
  exact Nat.le_trans (dropWhile_le _ _) (by rw [List.length_reverse]; exact Nat.le_refl _)
theorem indexAny_lt (l cs : Bs) : Lib.indexAny l cs < l.length ∨ Lib.indexAny l cs = -1 := by
  induction l with
  | nil => exact .inr rfl
  | cons b l ih =>
    unfold Lib.indexAny
    simp only [List.length_cons]
    split
    · exact .inl (by omega)
    · split
      · exact .inr rfl
      · rename_i h1 h2
        have h2' : Lib.indexAny l cs ≠ -1 := by simpa using h2
        rcases ih with q | q
        · exact .inl (by omega)
        · exact absurd q h2'

set_option maxRecDepth 100000 in
theorem word_calls (l : Bs) (hs : l.length < 4294967281) (w : World) :
    Calls Tryz.prog 59 #[S l] w fun e w' => e = .returned (.tuple #[S (wordL l).1, S (wordL l).2]) ∧ Below w.heap.size w w' := by
  have hle := trimS_le l blanks
  obtain ⟨t, ht⟩ : ∃ t, Lib.trimS l blanks = t := ⟨_, rfl⟩
  have hlt := indexAny_lt t blanks
  have hge := Lib.indexAny_ge blanks t
  obtain ⟨k, hk⟩ : ∃ k, Lib.indexAny t blanks = k := ⟨_, rfl⟩
  have HT : Hid (Lib.trimS l blanks = t) := ht
  have HK : Hid (Lib.indexAny t blanks = k) := hk
  rw [ht] at hle
  rw [hk] at hlt hge
  clear ht hk
  have hsz : t.length < 4294967281 := by omega
  by_cases h0 : 0 ≤ k
  · obtain ⟨n, rfl⟩ := Int.eq_ofNat_of_zero_le h0
    have HW : Hid (wordL l = (t.take n, Lib.trimS (t.drop n) blanks)) := by
      unfold Hid wordL; rw [HT.out, HK.out, if_pos h0]; rfl
    have d0 : decide ((0 : Int) ≤ (n : Int)) = true := decide_eq_true h0
    have hkt : (n : Int) ≤ (t.length : Int) := by omega
    have hszd : (t.drop n).length ≤ 9223372036854775807 := by simp; omega
    go_enter Tryz.func59, Tryz.ntmps59
    go_wp2_with fail
    refine (trim_calls l (by omega) _).mono ?_
    rw [HT.out]
    rintro e w1 ⟨rfl, hb1⟩
    go_wp2_with fail
    refine (indexAny_calls t hsz _).mono ?_
    rw [HK.out]
    rintro e w2 ⟨rfl, hb2⟩
    go_wp2_with fail
    go_region_held3 (fun _ => True) (trivial) (first | (go_at_call 90; refine (trim_calls _ hszd _).mono ?_; rintro e w3 ⟨rfl, hb3⟩))
    go_wp2
    go_ret2
    rw [HW.out]
    exact ⟨rfl, below_then' (below_then' hb1 hb2) (below_then' ((Below.refl _ w2).drew) hb3)⟩
  · have HW : Hid (wordL l = (t, [])) := by
      unfold Hid wordL; rw [HT.out, HK.out, if_neg h0]
    have d0 : decide (0 ≤ k) = false := decide_eq_false h0
    go_enter Tryz.func59, Tryz.ntmps59
    go_wp2_with fail
    refine (trim_calls l (by omega) _).mono ?_
    rw [HT.out]
    rintro e w1 ⟨rfl, hb1⟩
    go_wp2_with fail
    refine (indexAny_calls t hsz _).mono ?_
    rw [HK.out]
    rintro e w2 ⟨rfl, hb2⟩
    go_wp2
    go_ret2
    rw [HW.out]
    exact ⟨rfl, below_then' hb1 hb2⟩
end Go.Proofs.YtapanjfheddfnaaGreatDoor
