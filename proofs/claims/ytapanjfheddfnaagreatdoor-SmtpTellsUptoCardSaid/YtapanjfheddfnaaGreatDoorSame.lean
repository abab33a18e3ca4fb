/- Same. -/
import Derived.Test.YtapanjfheddfnaaGreatDoorRow
import Derived.Test.YtapanjfheddfnaaGreatDoorBridge
import Derived.IntWalk
import Derived.Deep.RegionHeld3
import Derived.Deep.DrawnRows
import Derived.WalkLawsBesides
namespace Go.Proofs.YtapanjfheddfnaaGreatDoor
open Go.RowKit Go.Shelf
attribute [local go_sem high] ext_to ext_from
attribute [local go_sem] ext_list app_list size_list

theorem RowAt.len {w : World} {e : TypeId} {v : Value} {xs : List Value} (h : RowAt w e v xs) : xs.length ≤ maxLen := by
  rcases h with ⟨_, rfl⟩ | ⟨_, _, _, _, _, _, _, _, h1, h2, _⟩
  · exact Nat.zero_le _
  · exact Nat.le_trans h1 h2
set_option maxHeartbeats 4000000 in
set_option maxRecDepth 100000 in
theorem same_calls (w : World) (h8 : 8 ≤ w.heap.size) (a b : Bs × List Bs × Bs) (va vb : Value) (ha : RowAt w 9 va (strsV a.2.1)) (hb : RowAt w 9 vb (strsV b.2.1)) :
    Calls Tryz.prog 18 #[.agg #[S a.1, va, S a.2.2], .agg #[S b.1, vb, S b.2.2]] w fun e w' => e = .returned (.bool (decide (a = b))) ∧ Below w.heap.size w w' := by
  obtain ⟨a1, a2, a3⟩ := a
  obtain ⟨b1, b2, b3⟩ := b
  dsimp only at *
  obtain ⟨ga, ca, hva⟩ := ha.slice
  obtain ⟨gb, cb, hvb⟩ := hb.slice
  have el : ∀ l : List Bs, (strsV l).length = l.length := fun l => by simp [strsV]
  have hla := ha.len
  have hlb := hb.len
  rw [el] at hva hvb hla hlb
  simp only [maxLen] at hla hlb
  subst hva
  subst hvb
  obtain ⟨w2, hw2⟩ : ∃ w2, (w.alloc (.cells #[S a1, .slice ga a2.length ca, S a3] 35)).alloc (.cells #[S b1, .slice gb b2.length cb, S b3] 35) = w2 := ⟨_, rfl⟩
  have hb2 : Below w.heap.size w w2 := by rw [← hw2]; exact ((Below.refl _ _).alloc (Nat.le_refl _) _).alloc (by simp) _
  have hA : w2.heap[w.heap.size]? = some (.cells #[S a1, .slice ga a2.length ca, S a3] 35 (0, 0)) := by rw [← hw2, Below.heap_alloc _ _ _ (by simp)]; exact heap_alloc_new _ _
  have hB : w2.heap[w.heap.size + 1]? = some (.cells #[S b1, .slice gb b2.length cb, S b3] 35 (0, 0)) := by rw [← hw2]; simpa using heap_alloc_new (w.alloc (.cells #[S a1, .slice ga a2.length ca, S a3] 35)) (.cells #[S b1, .slice gb b2.length cb, S b3] 35)
  have A0 : w2.cell? ⟨w.heap.size, 0, none⟩ = some (S a1) := by simp [World.cell?, hA]
  have A1 : w2.cell? ⟨w.heap.size, 1, none⟩ = some (.slice ga a2.length ca) := by simp [World.cell?, hA]
  have A2 : w2.cell? ⟨w.heap.size, 2, none⟩ = some (S a3) := by simp [World.cell?, hA]
  have B0 : w2.cell? ⟨w.heap.size + 1, 0, none⟩ = some (S b1) := by simp [World.cell?, hB]
  have B1 : w2.cell? ⟨w.heap.size + 1, 1, none⟩ = some (.slice gb b2.length cb) := by simp [World.cell?, hB]
  have B2 : w2.cell? ⟨w.heap.size + 1, 2, none⟩ = some (S b3) := by simp [World.cell?, hB]
  have ha2 : RowAt w2 9 (.slice ga a2.length ca) (strsV a2) := ha.heap fun k q => hb2.block k (ha.lt k q).2
  have hb2' : RowAt w2 9 (.slice gb b2.length cb) (strsV b2) := hb.heap fun k q => hb2.block k (hb.lt k q).2
  have z2 : w.heap.size + 2 ≤ w2.heap.size := by rw [← hw2]; simp
  clear ha hb hA hB
  by_cases h1 : a1 = b1
  · subst h1
    by_cases h3 : a3 = b3
    · subst h3
      by_cases hl : a2.length = b2.length
      · have dl : ((a2.length : Int) != (b2.length : Int)) = false := by simp [hl]
        have HE : Hid (a2.length = b2.length) := hl
        have HB := Lib.hid hb2
        have HW := Lib.hid hw2
        clear hl hb2
        go_enter Tryz.func18, Tryz.ntmps18
        go_wp2_with fail
        clear hw2
        go_loopg [5] a2.length (fun g v5 wx => ∃ i : Nat, i + g = a2.length ∧ v5 = .int .i64 i ∧ a2.take i = b2.take i ∧ Below w2.heap.size w2 wx)
        case atStart => exact ⟨0, by omega, rfl, by simp, Below.refl _ _⟩
        case round =>
          obtain ⟨i, hig, rfl, htk, hbx⟩ := hrel
          have HT := Lib.hid htk
          have HBX := Lib.hid hbx
          have kp : ∀ (q : Addr) (u : Value), w2.cell? q = some u → wr.cell? q = some u := fun q u hq => (World.cell?_of_block (hbx.block q.block (World.block_lt_of_cell? _ q hq))).trans hq
          have a1' := kp _ _ A1
          have b1' := kp _ _ B1
          clear htk hbx
          cases gk with
          | zero =>
            have d : decide ((i : Int) < (a2.length : Int)) = false := by simp; omega
            go_wp2
            go_ret
            refine ⟨?_, HB.out.trans (HBX.out.mono (by omega))⟩
            have : a2 = b2 := by
              have e := HT.out
              rw [List.take_of_length_le (by omega), List.take_of_length_le (by have := HE.out; omega)] at e
              exact e
            rw [this]
            simp
          | succ g =>
            have hia : i < a2.length := by omega
            have hib : i < b2.length := by have := HE.out; omega
            have d : decide ((i : Int) < (a2.length : Int)) = true := by simp; omega
            obtain ⟨ka, oa, ea, ra⟩ : ∃ k off, ga = some ⟨k, off, none⟩ ∧ wr.cell? ⟨k, off + i, none⟩ = some (S a2[i]) := by
              obtain ⟨g1, off, cap, e, hc⟩ := ha2.cells (by intro e; have e9 := congrArg List.length e; rw [el, List.length_nil] at e9; omega)
              rw [el] at e
              cases e
              exact ⟨g1, off, rfl, kp _ _ (hc i _ (by simp [strsV, hia]))⟩
            obtain ⟨kb, ob, eb, rb⟩ : ∃ k off, gb = some ⟨k, off, none⟩ ∧ wr.cell? ⟨k, off + i, none⟩ = some (S b2[i]) := by
              obtain ⟨g1, off, cap, e, hc⟩ := hb2'.cells (by intro e; have e9 := congrArg List.length e; rw [el, List.length_nil] at e9; omega)
              rw [el] at e
              cases e
              exact ⟨g1, off, rfl, kp _ _ (hc i _ (by simp [strsV, hib]))⟩
            subst ea
            subst eb
            have hi0 : (0 : Int) ≤ (i : Int) := by omega
            have hia' : (i : Int) < (a2.length : Int) := by omega
            have hib' : (i : Int) < (b2.length : Int) := by omega
            have hS : wr.drew.cell? ⟨w.heap.size, 1, none⟩ = some (.slice (some ⟨ka, oa, none⟩) a2.length ca) ∧ wr.drew.cell? ⟨w.heap.size + 1, 1, none⟩ = some (.slice (some ⟨kb, ob, none⟩) b2.length cb) ∧ wr.drew.cell? ⟨ka, oa + i, none⟩ = some (S a2[i]) ∧ wr.drew.cell? ⟨kb, ob + i, none⟩ = some (S b2[i]) := ⟨a1', b1', ra, rb⟩
            have hsucc := List.take_succ_eq_append_getElem hia
            have hsucc2 := List.take_succ_eq_append_getElem hib
            have HS2 := Lib.hid (And.intro hsucc hsucc2)
            clear hsucc hsucc2
            obtain ⟨x, hx⟩ : ∃ x, a2[i] = x := ⟨_, rfl⟩
            obtain ⟨y, hy⟩ : ∃ y, b2[i] = y := ⟨_, rfl⟩
            rw [hx] at hS ra
            rw [hy] at hS rb
            have HXY := Lib.hid (And.intro hx hy)
            clear hx hy
            have hib2 := ((Below.refl w2.heap.size w2))
            by_cases hxy : x = y
            · subst hxy
              go_wp2_with fail
              go_region_held3 (fun w' => w'.cell? ⟨w.heap.size, 1, none⟩ = some (.slice (some ⟨ka, oa, none⟩) a2.length ca) ∧ w'.cell? ⟨w.heap.size + 1, 1, none⟩ = some (.slice (some ⟨kb, ob, none⟩) b2.length cb) ∧ w'.cell? ⟨ka, oa + i, none⟩ = some (S x) ∧ w'.cell? ⟨kb, ob + i, none⟩ = some (S x)) (first | assumption | exact hS) (fail)
              go_wp2
              go_roundg g
              case measure => omega
              case rel =>
                refine ⟨i + 1, by omega, by first | rfl | simp, ?_, HBX.out.drew⟩
                have e := HS2.out
                rw [HXY.out.1, HXY.out.2] at e
                rw [e.1, e.2, HT.out]
            · have dx : (x == y) = false := by simpa using hxy
              have HN := Lib.hid hxy
              clear hxy
              go_wp2_with fail
              go_region_held3 (fun w' => w'.cell? ⟨w.heap.size, 1, none⟩ = some (.slice (some ⟨ka, oa, none⟩) a2.length ca) ∧ w'.cell? ⟨w.heap.size + 1, 1, none⟩ = some (.slice (some ⟨kb, ob, none⟩) b2.length cb) ∧ w'.cell? ⟨ka, oa + i, none⟩ = some (S x) ∧ w'.cell? ⟨kb, ob + i, none⟩ = some (S y)) (first | assumption | exact hS) (fail)
              go_wp2
              go_ret
              refine ⟨?_, (HB.out.trans (HBX.out.mono (by omega))).drew⟩
              have : ¬ a2 = b2 := by
                intro e
                subst e
                exact HN.out (HXY.out.1.symm.trans HXY.out.2)
              simp [this]
      · have dl : ((a2.length : Int) != (b2.length : Int)) = true := by simp; omega
        have HL := Lib.hid hl
        clear hl
        go_enter Tryz.func18, Tryz.ntmps18
        go_wp2
        go_ret
        refine ⟨?_, hb2⟩
        have : ¬ a2 = b2 := fun e => HL.out (by rw [e])
        simp [this]
    · have d3 : (a3 == b3) = false := by simpa using h3
      have H3 := Lib.hid h3
      clear h3
      go_enter Tryz.func18, Tryz.ntmps18
      go_wp2
      go_ret
      exact ⟨by simp [H3.out], hb2⟩
  · have d1 : (a1 == b1) = false := by simpa using h1
    have H1 := Lib.hid h1
    clear h1
    go_enter Tryz.func18, Tryz.ntmps18
    go_wp2
    go_ret
    exact ⟨by simp [H1.out], hb2⟩
end Go.Proofs.YtapanjfheddfnaaGreatDoor
