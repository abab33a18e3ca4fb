/- The arguments as they come in. -/
import Derived.Test.YtapanjfheddfnaaGreatDoorGlobe
import Derived.Test.YtapanjfheddfnaaGreatDoorInR
import Derived.SliceStrings
import Derived.OpenShut
import Derived.Carry
namespace Go.Proofs.YtapanjfheddfnaaGreatDoor
open Go.RowKit Go.Lib Go.ChangeShapes Go.WideShapes Go.ChangeAt

theorem cells9 : Tryz.prog.cellsOf 9 = 1 := by kernel_rfl
theorem cells38 : Tryz.prog.cellsOf 38 = 1 := by kernel_rfl
section
variable {H : Type} {enc : TypeId × Value → H}
theorem bulk_strs : ∀ ss : List ByteArray, Rows.uptoBulkAll (strs (H := H) ss) = sumL (ss.map (·.data.toList)) + ss.length
  | [] => rfl
  | s :: ss => by
    have := bulk_strs ss
    simp only [strs, List.map_cons, Rows.uptoBulkAll, Rows.uptoBulk, sumL, List.sum_cons, List.length_cons] at this ⊢
    omega
theorem bulk_lits (k : IntKind) : ∀ zs : List Int, Rows.uptoBulkAll (lits (H := H) k zs) = zs.length
  | [] => rfl
  | z :: zs => by
    have := bulk_lits k zs
    simp only [lits, List.map_cons, Rows.uptoBulkAll, Rows.uptoBulk, List.length_cons] at this ⊢
    omega
theorem S_data (s : ByteArray) : S s.data.toList = .string s := by
  show Value.string ⟨s.data.toList.toArray⟩ = _
  rw [Array.toArray_toList]
theorem open_strs {W : World} {a0 : Option Addr} {len cap fuel : Nat} {x : DataW H × List MemPlace} (hf : DataW.trod enc Tryz.prog W 0 (fun _ => true) true fuel 22 [.slice a0 len cap] = some x) :
    ∃ l : List Bs, ReadsAt W (.slice a0 len cap) l ∧ sumL l + l.length ≤ Rows.uptoBulk x.1 := by
  rcases open_strings Tryz.underlying22 Tryz.underlying9 cells9 hf with ⟨hcs, hx⟩ | ⟨a, len', cap', ss, hcs, _, hl, hm, hz, hx, hcell, _⟩
  · simp at hcs
    obtain ⟨rfl, rfl, rfl⟩ := hcs
    exact ⟨[], ⟨none, 0, rfl, fun h => absurd rfl h⟩, by simp [sumL]⟩
  · simp at hcs
    obtain ⟨rfl, rfl, rfl⟩ := hcs
    subst hx
    simp only [if_true] at hz
    obtain ⟨b, off, spot⟩ := a
    have hlen : ((ss.take len).map (·.data.toList)).length = len := by simp; omega
    refine ⟨(ss.take len).map (·.data.toList), ⟨some ⟨b, off, spot⟩, cap, by rw [hlen], fun hne => ?_⟩, ?_⟩
    · have h0 : 0 < len := by
        rcases Nat.eq_zero_or_pos len with q | q
        · subst q; simp at hne
        · exact q
      have hspot : spot = none := by simpa [Addr.add] using World.cell?_spot (hcell 0 (by omega))
      subst hspot
      refine ⟨b, off, rfl, fun j X hX => ?_⟩
      have hj : j < len := by
        have := (List.getElem?_eq_some_iff.1 hX).1
        rw [hlen] at this
        exact this
      have := hcell j (by omega)
      rw [Addr.add_lit] at this
      rw [this]
      simp only [List.getElem?_map, List.getElem?_take_of_lt hj] at hX
      obtain ⟨s, hs, rfl⟩ := Option.map_eq_some_iff.1 hX
      rw [S_data]
      simp [List.getD, hs]
    · have e1 := bulk_strs (H := H) (ss.take len)
      simp only [Rows.uptoBulk]
      rw [hlen]
      simp only [List.length_take] at e1
      omega
theorem open_errs {W : World} {a0 : Option Addr} {len cap fuel : Nat} {x : DataW H × List MemPlace} (hf : DataW.trod enc Tryz.prog W 0 (fun _ => true) true fuel 23 [.slice a0 len cap] = some x) :
    ∃ l : List Int, IntsAt W (.slice a0 len cap) l ∧ l.length ≤ Rows.uptoBulk x.1 := by
  rcases open_ints Tryz.underlying23 Tryz.underlying38 cells38 hf with ⟨hcs, hx⟩ | ⟨a, len', cap', zs, hcs, _, hl, hm, hz, hx, hcell, _⟩
  · simp at hcs
    obtain ⟨rfl, rfl, rfl⟩ := hcs
    exact ⟨[], ⟨none, 0, rfl, fun h => absurd rfl h⟩, by simp⟩
  · simp at hcs
    obtain ⟨rfl, rfl, rfl⟩ := hcs
    subst hx
    simp only [if_true] at hz
    obtain ⟨b, off, spot⟩ := a
    have hlen : (zs.take len).length = len := by simp; omega
    refine ⟨zs.take len, ⟨some ⟨b, off, spot⟩, cap, by rw [hlen], fun hne => ?_⟩, ?_⟩
    · have h0 : 0 < len := by
        rcases Nat.eq_zero_or_pos len with q | q
        · subst q; simp at hne
        · exact q
      have hspot : spot = none := by simpa [Addr.add] using World.cell?_spot (hcell 0 (by omega))
      subst hspot
      refine ⟨b, off, rfl, fun j X hX => ?_⟩
      have hj : j < len := by
        have := (List.getElem?_eq_some_iff.1 hX).1
        rw [hlen] at this
        exact this
      have := hcell j (by omega)
      rw [Addr.add_lit] at this
      rw [this]
      rw [List.getElem?_take_of_lt hj] at hX
      simp [List.getD, hX]
    · have e1 := bulk_lits (H := H) .i64 (zs.take len)
      simp only [Rows.uptoBulk]
      omega
end
end Go.Proofs.YtapanjfheddfnaaGreatDoor
