/- has. -/
import Derived.Test.YtapanjfheddfnaaGreatDoorFew
namespace Go.Proofs.YtapanjfheddfnaaGreatDoor
open Go.RowKit Go.Shelf
attribute [local go_sem high] ext_to ext_from
attribute [local go_sem] ext_list app_list size_list

set_option maxHeartbeats 2000000 in
set_option maxRecDepth 100000 in
theorem has_calls (w : World) (v : Value) (l : List Bs) (h : ReadsAt w v l) (hn : l.length ≤ 9223372036854775806) (s : Bs) :
    Calls Tryz.prog 27 #[v, S s] w fun e w' => e = .returned (.bool (l.contains s)) ∧ w' = w := by
  obtain ⟨a, c, rfl, hc⟩ := h
  have HC := Lib.hid hc
  clear hc
  go_enter Tryz.func27, Tryz.ntmps27
  go_wp2_with fail
  go_loopg [5] l.length (fun g v5 wx => ∃ i : Nat, i + g = l.length ∧ v5 = .int .i64 i ∧ (l.take i).contains s = false ∧ wx = w)
  case atStart => exact ⟨0, by omega, rfl, by simp, rfl⟩
  case round =>
    obtain ⟨i, hi, rfl, hno, rfl⟩ := hrel
    have HNO := Lib.hid hno
    clear hno
    cases gk with
    | zero =>
      have d1 : decide ((i : Int) < (l.length : Int)) = false := by simp; omega
      have ht : l.take i = l := List.take_of_length_le (by omega)
      have HE : Hid (l.contains s = false) := by unfold Hid; rw [← ht]; exact HNO.out
      clear ht
      go_wp2
      go_ret
      rw [HE.out]
      exact ⟨rfl, rfl⟩
    | succ g =>
      have h1 : i < l.length := by omega
      have d1 : decide ((i : Int) < (l.length : Int)) = true := by simp; omega
      have hi0 : (0 : Int) ≤ (i : Int) := by omega
      have hil : (i : Int) < (l.length : Int) := by omega
      obtain ⟨gb, off, ha, hr⟩ := HC.out (by intro e; rw [e] at h1; simp at h1)
      obtain ⟨x, hx⟩ : ∃ x, l[i]? = some x := ⟨l[i], List.getElem?_eq_getElem h1⟩
      have c1 := hr i _ hx
      have htk : Hid (l.take (i + 1) = l.take i ++ [x]) := by unfold Hid; rw [List.take_add_one, hx]; rfl
      have HX := Lib.hid hx
      have hjw : IntKind.i64.wrap ((i : Int) + 1) = ((i + 1 : Nat) : Int) := by rw [IntWalk.i64_in _ ⟨by omega, by omega⟩]; omega
      subst ha
      clear hr hx
      by_cases hxs : x = s
      · subst hxs
        have HE : Hid (l.contains x = true) := by unfold Hid; rw [List.contains_iff_mem]; exact List.mem_of_getElem? HX.out
        go_wp2
        go_ret
        rw [HE.out]
        exact ⟨rfl, rfl⟩
      · have dx : (x == s) = false := by simpa using hxs
        have HN := Lib.hid hxs
        clear hxs
        go_wp2
        go_roundg g
        case measure => omega
        case rel =>
          refine ⟨i + 1, by omega, by simp, ?_, rfl⟩
          rw [htk.out]
          have e0 := HNO.out
          simp only [List.contains_eq_mem, List.mem_append, List.mem_cons, List.not_mem_nil, or_false, decide_eq_false_iff_not, not_or] at e0 ⊢
          exact ⟨e0, fun e => HN.out e.symm⟩
end Go.Proofs.YtapanjfheddfnaaGreatDoor
