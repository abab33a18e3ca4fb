/- SmtpHands: the walk. -/
import Derived.Test.YtapanjfheddfnaaGreatDoorHandsR
import Derived.Test.YtapanjfheddfnaaGreatDoorStuffW
import Derived.Test.YtapanjfheddfnaaGreatDoorHas
import Derived.Test.YtapanjfheddfnaaGreatDoorLaw6
namespace Go.Proofs.YtapanjfheddfnaaGreatDoor
open Go.RowKit Go.Shelf
attribute [local go_sem high] ext_to ext_from
attribute [local go_sem] ext_list app_list size_list

theorem sM_ok (m : Int) (rs : List Bs) (h : rs.length ≤ 16) : Ok (sM m rs) 0 :=
  ⟨by unfold sM sG newS mostL; simp only; omega, by simp [sM, sG, newS], h, by simp [sM, sG, newS, vol], ⟨fun _ q => (by cases q), fun q => absurd rfl q, fun q => by simp [sM, sG, newS] at q⟩⟩
theorem sG_ok (m : Int) : Ok (sG m) 0 :=
  ⟨by unfold sG newS mostL; simp only; omega, by simp [sG, newS], by simp [sG, newS], by simp [sG, newS, vol], ⟨fun q => absurd rfl q, fun q => absurd rfl q, fun q => by simp [sG, newS] at q⟩⟩
theorem sB_ok (m : Int) (rs : List Bs) (h : rs.length ≤ 16) : Ok { sM m rs with body := some [] } 0 :=
  ⟨by unfold sM sG newS mostL; simp only; omega, by simp [sM, sG, newS], h, by simp [sM, sG, newS, vol], ⟨fun _ q => (by cases q), fun _ q => (by cases q), fun q => by simp [sM, sG, newS] at q⟩⟩
theorem reply354 : replyL 354 = [51, 53, 52, 32, 83, 116, 97, 114, 116, 32, 109, 97, 105, 108, 32, 105, 110, 112, 117, 116, 13, 10] := by decide +kernel
theorem reply552 : replyL 552 = [53, 53, 50, 32, 77, 101, 115, 115, 97, 103, 101, 32, 115, 105, 122, 101, 32, 101, 120, 99, 101, 101, 100, 115, 32, 108, 105, 109, 105, 116, 13, 10] := by decide +kernel
section
variable {P : Program} {md : Region.Mode} {ops : Array Oper} {Q : Exit → Act → World → Prop}
theorem wpAnyH_takeD {S : World → Prop} (i : Nat) (d : Option Tmp) {oi : Oper} {v : Value} {fuel : Nat} {listed : Array Bool} {a : Act} {w : World} (hi : ops[i]? = some oi) (hd : oi.dst = d)
    (hs : Region.noSelect ops = true) (hf : Region.free md ops listed i = true) (hr : (Region.ready md ops listed).contains i = true) (hQ : ∀ c a w, Q (.panic c) (a.put d v) w → Q (.panic c) a w)
    (hg : Region.wanted oi (yielded ops a.tmps) = true) (hy : ∀ w, S w → (execOp a.eval oi).run P w = .ok (.value v) w) (hS : S w)
    (h : wpAnyH P md ops Q S fuel (listed.setIfInBounds i true) (a.put d v) w) : wpAnyH P md ops Q S (fuel + 1) listed a w := by
  subst hd
  exact wpAnyH_take hi hs hf hr hQ (.inl ⟨hg, hy⟩) hS h
theorem wpAnyH_skipD {S : World → Prop} (i : Nat) (d : Option Tmp) {oi : Oper} {fuel : Nat} {listed : Array Bool} {a : Act} {w : World} (hi : ops[i]? = some oi) (hd : oi.dst = d)
    (hs : Region.noSelect ops = true) (hf : Region.free md ops listed i = true) (hr : (Region.ready md ops listed).contains i = true) (hQ : ∀ c a w, Q (.panic c) (a.put d undef) w → Q (.panic c) a w)
    (hg : Region.wanted oi (yielded ops a.tmps) = false) (hS : S w)
    (h : wpAnyH P md ops Q S fuel (listed.setIfInBounds i true) (a.put d undef) w) : wpAnyH P md ops Q S (fuel + 1) listed a w := by
  subst hd
  exact wpAnyH_take hi hs hf hr hQ (.inr ⟨hg, rfl⟩) hS h
end
set_option maxHeartbeats 16000000 in
set_option maxRecDepth 100000 in
theorem law7_calls (w : World) (G : Glob w) (m : Int) (text : Bs) (v : Value) (tos : List Nat) (many : Int) (hto : ShortsAt w v tos) (hn : tos.length ≤ 2000000) (hs : text.length ≤ 2000000) :
    Calls Tryz.prog 7 #[.int .i64 m, S text, v, .int .i64 many] w fun e w' => e = .returned (.bool true) ∧ Below w.heap.size w w' := by
  have HTO := Lib.hid hto
  obtain ⟨a, c, rfl, hx16, hc⟩ := id hto
  clear hto hc hx16
  by_cases c1 : 4000 < text.length
  · have d1 : decide (4000 < (text.length : Int)) = true := by simp; omega
    clear c1
    go_enter Tryz.func7, Tryz.ntmps7
    go_wp2_with fail
    refine (small_calls w G).mono ?_
    rintro e w1 ⟨rfl, hb1⟩
    have HB1 := Lib.hid hb1
    clear hb1
    go_wp2
    go_ret
    exact ⟨rfl, HB1.out⟩
  have d1 : decide (4000 < (text.length : Int)) = false := by simp; omega
  by_cases c2 : tos.length < 1
  · have d2 : decide ((tos.length : Int) < 1) = true := by simp; omega
    clear c2
    go_enter Tryz.func7, Tryz.ntmps7
    go_wp2_with fail
    refine (small_calls w G).mono ?_
    rintro e w1 ⟨rfl, hb1⟩
    have HB1 := Lib.hid hb1
    clear hb1
    go_wp2
    go_ret
    exact ⟨rfl, HB1.out⟩
  have d2 : decide ((tos.length : Int) < 1) = false := by simp; omega
  by_cases c3 : 16 < tos.length
  · have d3 : decide (16 < (tos.length : Int)) = true := by simp; omega
    clear c3
    go_enter Tryz.func7, Tryz.ntmps7
    go_wp2_with fail
    refine (small_calls w G).mono ?_
    rintro e w1 ⟨rfl, hb1⟩
    have HB1 := Lib.hid hb1
    clear hb1
    go_wp2
    go_ret
    exact ⟨rfl, HB1.out⟩
  have d3 : decide (16 < (tos.length : Int)) = false := by simp; omega
  by_cases c4 : many < 1
  · have d4 : decide (many < 1) = true := by simp; omega
    clear c4
    go_enter Tryz.func7, Tryz.ntmps7
    go_wp2_with fail
    refine (small_calls w G).mono ?_
    rintro e w1 ⟨rfl, hb1⟩
    have HB1 := Lib.hid hb1
    clear hb1
    go_wp2
    go_ret
    exact ⟨rfl, HB1.out⟩
  have d4 : decide (many < 1) = false := by simp; omega
  by_cases c5 : 4 < many
  · have d5 : decide (4 < many) = true := by simp; omega
    clear c5
    go_enter Tryz.func7, Tryz.ntmps7
    go_wp2_with fail
    refine (small_calls w G).mono ?_
    rintro e w1 ⟨rfl, hb1⟩
    have HB1 := Lib.hid hb1
    clear hb1
    go_wp2
    go_ret
    exact ⟨rfl, HB1.out⟩
  have d5 : decide (4 < many) = false := by simp; omega
  have h4000 : text.length ≤ 4000 := by omega
  have ht1 : 1 ≤ tos.length := by omega
  have ht16 : tos.length ≤ 16 := by omega
  have hm1 : 1 ≤ many := by omega
  have hm4 : many ≤ 4 := by omega
  clear c1 c2 c3 c4 c5 hn hs
  go_enter Tryz.func7, Tryz.ntmps7
  go_wp2_with fail
  refine (small_calls w G).mono ?_
  rintro e w1 ⟨rfl, hb1⟩
  have HB1 := Lib.hid hb1
  have G1 := G.below' hb1
  clear hb1
  go_wp2_with fail
  refine (split_calls text (by omega) w1 G1).mono ?_
  rintro e w2 ⟨ov, rfl, ho, hb2⟩
  obtain ⟨L, hL⟩ : ∃ L, linesL text = L := ⟨_, rfl⟩
  rw [hL] at ho
  have G2 := G1.below' hb2
  have HRD : Hid (ReadsAt w2 ov L) := (RowAt.of_owns ho (by have := G1.sz; omega)).reads
  have HRL : Hid (L.length ≤ 9223372036854775807) := by
    have := (RowAt.of_owns ho (by have := G1.sz; omega)).len
    rw [strsV_len] at this
    simp only [maxLen] at this
    unfold Hid
    omega
  have HLL : Hid (∀ x ∈ L, x.length ≤ 4000) := by
    intro x hx
    rw [← hL] at hx
    have := mem_linesL_le hx
    omega
  have HLT := Lib.hid hL
  obtain ⟨oa, oc, hov, _⟩ := HRD.out
  subst hov
  have HB2 : Hid (Below w.heap.size w w2) := below_then'' HB1.out hb2 HB1.out.size
  clear ho hb2 hL d1 d2 d3 d4 d5
  go_wp2_with fail
  go_loopg [11] L.length (fun g v11 wx => ∃ i : Nat, i + g = L.length ∧ v11 = .int .i64 i ∧ (∀ x ∈ L.take i, crlfB x = true) ∧ Below w2.heap.size w2 wx)
  case atStart => exact ⟨0, by omega, rfl, by simp, Below.refl _ _⟩
  case round =>
    obtain ⟨i, hig, rfl, hpre, hbx⟩ := hrel
    have HBX := Lib.hid hbx
    have HPRE := Lib.hid hpre
    have GX := G2.below' hbx
    have HBW : Hid (Below w.heap.size w wr) := below_then'' HB2.out hbx HB2.out.size
    clear hbx hpre
    cases gk with
    | succ g =>
      have hi : i < L.length := by omega
      have d : decide ((i : Int) < (L.length : Int)) = true := by simp; omega
      have hi0 : (0 : Int) ≤ (i : Int) := by omega
      have hil : (i : Int) < (L.length : Int) := by omega
      have hrl := HRL.out
      have hjw : IntKind.i64.wrap ((i : Int) + 1) = ((i + 1 : Nat) : Int) := by rw [IntWalk.i64_in _ ⟨by omega, by omega⟩]; omega
      obtain ⟨x, hx⟩ : ∃ x, L[i]? = some x := ⟨L[i], List.getElem?_eq_getElem hi⟩
      have hxl := HLL.out x (List.mem_of_getElem? hx)
      obtain ⟨ka, off, rfl, hcx⟩ : ∃ k off, oa = some ⟨k, off, none⟩ ∧ wr.cell? ⟨k, off + i, none⟩ = some (S x) := by
        obtain ⟨a', c', e, hrd⟩ := HRD.out.below HBX.out
        cases e
        obtain ⟨k, off, e2, hrd⟩ := hrd (by intro e; rw [e] at hi; simp at hi)
        exact ⟨k, off, e2, hrd i x hx⟩
      have HX := Lib.hid hx
      clear hx hrl
      by_cases e1 : 992 < x.length
      · have f1 : decide (992 < (x.length : Int)) = true := by simp; omega
        clear e1
        go_wp2_with fail
        refine wp_region_held_drew (S := fun w' => w'.cell? ⟨ka, off + i, none⟩ = some (S x)) (by kernel_rfl) hcx (fun hHeld => ?_)
        refine' wpAnyH_takeD 0 (some 60) (v := _) rfl rfl (by kernel_rfl) (by kernel_rfl) (by kernel_rfl) (fun _ _ _ h => h) rfl ?_ hcx ?_
        rotate_left 1
        · (intro w' hSw; (try dsimp only at hSw); go_simp; first | done | with_reducible rfl)
        simp only [Act.put, List.setIfInBounds_toArray, List.set_cons_zero, List.set_cons_succ]
        refine' wpAnyH_takeD 1 (some 61) (v := _) rfl rfl (by kernel_rfl) (by kernel_rfl) (by kernel_rfl) (fun _ _ _ h => h) rfl ?_ hcx ?_
        rotate_left 1
        · (intro w' hSw; (try dsimp only at hSw); go_simp; first | done | with_reducible rfl)
        simp only [Act.put, List.setIfInBounds_toArray, List.set_cons_zero, List.set_cons_succ]
        refine' wpAnyH_takeD 2 (some 62) (v := _) rfl rfl (by kernel_rfl) (by kernel_rfl) (by kernel_rfl) (fun _ _ _ h => h) rfl ?_ hcx ?_
        rotate_left 1
        · (intro w' hSw; (try dsimp only at hSw); go_simp; first | done | with_reducible rfl)
        simp only [Act.put, List.setIfInBounds_toArray, List.set_cons_zero, List.set_cons_succ]
        refine' wpAnyH_takeD 3 (some 63) (v := _) rfl rfl (by kernel_rfl) (by kernel_rfl) (by kernel_rfl) (fun _ _ _ h => h) rfl ?_ hcx ?_
        rotate_left 1
        · (intro w' hSw; (try dsimp only at hSw); go_simp; first | done | with_reducible rfl)
        simp only [Act.put, List.setIfInBounds_toArray, List.set_cons_zero, List.set_cons_succ]
        refine' wpAnyH_takeD 4 (some 64) (v := _) rfl rfl (by kernel_rfl) (by kernel_rfl) (by kernel_rfl) (fun _ _ _ h => h) rfl ?_ hcx ?_
        rotate_left 1
        · (intro w' hSw; (try dsimp only at hSw); go_simp; first | done | with_reducible rfl)
        simp only [Act.put, List.setIfInBounds_toArray, List.set_cons_zero, List.set_cons_succ]
        refine' wpAnyH_takeD 5 (some 65) (v := _) rfl rfl (by kernel_rfl) (by kernel_rfl) (by kernel_rfl) (fun _ _ _ h => h) rfl ?_ hcx ?_
        rotate_left 1
        · (intro w' hSw; (try dsimp only at hSw); go_simp; first | done | with_reducible rfl)
        simp only [Act.put, List.setIfInBounds_toArray, List.set_cons_zero, List.set_cons_succ]
        refine' wpAnyH_takeD 6 (some 66) (v := _) rfl rfl (by kernel_rfl) (by kernel_rfl) (by kernel_rfl) (fun _ _ _ h => h) rfl ?_ hcx ?_
        rotate_left 1
        · (intro w' hSw; (try dsimp only at hSw); go_simp; first | done | with_reducible rfl)
        simp only [Act.put, List.setIfInBounds_toArray, List.set_cons_zero, List.set_cons_succ]
        refine' wpAnyH_skipD 7 (some 67) rfl rfl (by kernel_rfl) (by kernel_rfl) (by kernel_rfl) (fun _ _ _ h => h) rfl hcx ?_
        simp only [Act.put, List.setIfInBounds_toArray, List.set_cons_zero, List.set_cons_succ]
        refine' wpAnyH_skipD 8 (some 68) rfl rfl (by kernel_rfl) (by kernel_rfl) (by kernel_rfl) (fun _ _ _ h => h) rfl hcx ?_
        simp only [Act.put, List.setIfInBounds_toArray, List.set_cons_zero, List.set_cons_succ]
        refine' wpAnyH_skipD 9 (some 69) rfl rfl (by kernel_rfl) (by kernel_rfl) (by kernel_rfl) (fun _ _ _ h => h) rfl hcx ?_
        simp only [Act.put, List.setIfInBounds_toArray, List.set_cons_zero, List.set_cons_succ]
        refine' wpAnyH_skipD 10 (some 70) rfl rfl (by kernel_rfl) (by kernel_rfl) (by kernel_rfl) (fun _ _ _ h => h) rfl hcx ?_
        simp only [Act.put, List.setIfInBounds_toArray, List.set_cons_zero, List.set_cons_succ]
        refine' wpAnyH_skipD 11 (some 71) rfl rfl (by kernel_rfl) (by kernel_rfl) (by kernel_rfl) (fun _ _ _ h => h) rfl hcx ?_
        simp only [Act.put, List.setIfInBounds_toArray, List.set_cons_zero, List.set_cons_succ]
        refine' wpAnyH_skipD 12 (some 72) rfl rfl (by kernel_rfl) (by kernel_rfl) (by kernel_rfl) (fun _ _ _ h => h) rfl hcx ?_
        simp only [Act.put, List.setIfInBounds_toArray, List.set_cons_zero, List.set_cons_succ]
        refine' wpAnyH_takeD 13 (some 73) (v := _) rfl rfl (by kernel_rfl) (by kernel_rfl) (by kernel_rfl) (fun _ _ _ h => h) rfl ?_ hcx ?_
        rotate_left 1
        · (intro w' hSw; (try dsimp only at hSw); go_simp; first | done | with_reducible rfl)
        simp only [Act.put, List.setIfInBounds_toArray, List.set_cons_zero, List.set_cons_succ]
        refine' wpAnyH_takeD 14 (some 74) (v := _) rfl rfl (by kernel_rfl) (by kernel_rfl) (by kernel_rfl) (fun _ _ _ h => h) rfl ?_ hcx ?_
        rotate_left 1
        · (intro w' hSw; (try dsimp only at hSw); go_simp; first | done | with_reducible rfl)
        simp only [Act.put, List.setIfInBounds_toArray, List.set_cons_zero, List.set_cons_succ]
        refine' wpAnyH_skipD 15 (some 75) rfl rfl (by kernel_rfl) (by kernel_rfl) (by kernel_rfl) (fun _ _ _ h => h) rfl hcx ?_
        simp only [Act.put, List.setIfInBounds_toArray, List.set_cons_zero, List.set_cons_succ]
        refine' wpAnyH_skipD 16 (some 76) rfl rfl (by kernel_rfl) (by kernel_rfl) (by kernel_rfl) (fun _ _ _ h => h) rfl hcx ?_
        simp only [Act.put, List.setIfInBounds_toArray, List.set_cons_zero, List.set_cons_succ]
        refine' wpAnyH_skipD 17 (some 77) rfl rfl (by kernel_rfl) (by kernel_rfl) (by kernel_rfl) (fun _ _ _ h => h) rfl hcx ?_
        simp only [Act.put, List.setIfInBounds_toArray, List.set_cons_zero, List.set_cons_succ]
        refine' wpAnyH_skipD 18 (some 78) rfl rfl (by kernel_rfl) (by kernel_rfl) (by kernel_rfl) (fun _ _ _ h => h) rfl hcx ?_
        simp only [Act.put, List.setIfInBounds_toArray, List.set_cons_zero, List.set_cons_succ]
        refine' wpAnyH_skipD 19 (some 79) rfl rfl (by kernel_rfl) (by kernel_rfl) (by kernel_rfl) (fun _ _ _ h => h) rfl hcx ?_
        simp only [Act.put, List.setIfInBounds_toArray, List.set_cons_zero, List.set_cons_succ]
        refine' wpAnyH_skipD 20 (some 80) rfl rfl (by kernel_rfl) (by kernel_rfl) (by kernel_rfl) (fun _ _ _ h => h) rfl hcx ?_
        simp only [Act.put, List.setIfInBounds_toArray, List.set_cons_zero, List.set_cons_succ]
        refine' wpAnyH_skipD 21 (some 81) rfl rfl (by kernel_rfl) (by kernel_rfl) (by kernel_rfl) (fun _ _ _ h => h) rfl hcx ?_
        simp only [Act.put, List.setIfInBounds_toArray, List.set_cons_zero, List.set_cons_succ]
        refine' wpAnyH_skipD 22 (some 82) rfl rfl (by kernel_rfl) (by kernel_rfl) (by kernel_rfl) (fun _ _ _ h => h) rfl hcx ?_
        simp only [Act.put, List.setIfInBounds_toArray, List.set_cons_zero, List.set_cons_succ]
        refine' wpAnyH_skipD 23 (some 83) rfl rfl (by kernel_rfl) (by kernel_rfl) (by kernel_rfl) (fun _ _ _ h => h) rfl hcx ?_
        simp only [Act.put, List.setIfInBounds_toArray, List.set_cons_zero, List.set_cons_succ]
        refine' wpAnyH_skipD 24 (some 84) rfl rfl (by kernel_rfl) (by kernel_rfl) (by kernel_rfl) (fun _ _ _ h => h) rfl hcx ?_
        simp only [Act.put, List.setIfInBounds_toArray, List.set_cons_zero, List.set_cons_succ]
        refine' wpAnyH_skipD 25 (some 85) rfl rfl (by kernel_rfl) (by kernel_rfl) (by kernel_rfl) (fun _ _ _ h => h) rfl hcx ?_
        simp only [Act.put, List.setIfInBounds_toArray, List.set_cons_zero, List.set_cons_succ]
        refine' wpAnyH_skipD 26 (some 86) rfl rfl (by kernel_rfl) (by kernel_rfl) (by kernel_rfl) (fun _ _ _ h => h) rfl hcx ?_
        simp only [Act.put, List.setIfInBounds_toArray, List.set_cons_zero, List.set_cons_succ]
        refine' wpAnyH_takeD 27 (some 87) (v := _) rfl rfl (by kernel_rfl) (by kernel_rfl) (by kernel_rfl) (fun _ _ _ h => h) rfl ?_ hcx ?_
        rotate_left 1
        · (intro w' hSw; (try dsimp only at hSw); go_simp; first | done | with_reducible rfl)
        simp only [Act.put, List.setIfInBounds_toArray, List.set_cons_zero, List.set_cons_succ]
        refine wpAnyH_done (by kernel_rfl) ?_ _
        go_wp2
        go_ret
        exact ⟨rfl, HBW.out.drew⟩
      have f1 : decide (992 < (x.length : Int)) = false := by simp; omega
      by_cases e2 : x.length < 2
      · have f2 : decide ((x.length : Int) < 2) = true := by simp; omega
        clear e2
        go_wp2_with fail
        refine wp_region_held_drew (S := fun w' => w'.cell? ⟨ka, off + i, none⟩ = some (S x)) (by kernel_rfl) hcx (fun hHeld => ?_)
        refine' wpAnyH_takeD 0 (some 60) (v := _) rfl rfl (by kernel_rfl) (by kernel_rfl) (by kernel_rfl) (fun _ _ _ h => h) rfl ?_ hcx ?_
        rotate_left 1
        · (intro w' hSw; (try dsimp only at hSw); go_simp; first | done | with_reducible rfl)
        simp only [Act.put, List.setIfInBounds_toArray, List.set_cons_zero, List.set_cons_succ]
        refine' wpAnyH_takeD 1 (some 61) (v := _) rfl rfl (by kernel_rfl) (by kernel_rfl) (by kernel_rfl) (fun _ _ _ h => h) rfl ?_ hcx ?_
        rotate_left 1
        · (intro w' hSw; (try dsimp only at hSw); go_simp; first | done | with_reducible rfl)
        simp only [Act.put, List.setIfInBounds_toArray, List.set_cons_zero, List.set_cons_succ]
        refine' wpAnyH_takeD 2 (some 62) (v := _) rfl rfl (by kernel_rfl) (by kernel_rfl) (by kernel_rfl) (fun _ _ _ h => h) rfl ?_ hcx ?_
        rotate_left 1
        · (intro w' hSw; (try dsimp only at hSw); go_simp; first | done | with_reducible rfl)
        simp only [Act.put, List.setIfInBounds_toArray, List.set_cons_zero, List.set_cons_succ]
        refine' wpAnyH_takeD 3 (some 63) (v := _) rfl rfl (by kernel_rfl) (by kernel_rfl) (by kernel_rfl) (fun _ _ _ h => h) rfl ?_ hcx ?_
        rotate_left 1
        · (intro w' hSw; (try dsimp only at hSw); go_simp; first | done | with_reducible rfl)
        simp only [Act.put, List.setIfInBounds_toArray, List.set_cons_zero, List.set_cons_succ]
        refine' wpAnyH_takeD 4 (some 64) (v := _) rfl rfl (by kernel_rfl) (by kernel_rfl) (by kernel_rfl) (fun _ _ _ h => h) rfl ?_ hcx ?_
        rotate_left 1
        · (intro w' hSw; (try dsimp only at hSw); go_simp; first | done | with_reducible rfl)
        simp only [Act.put, List.setIfInBounds_toArray, List.set_cons_zero, List.set_cons_succ]
        refine' wpAnyH_takeD 5 (some 65) (v := _) rfl rfl (by kernel_rfl) (by kernel_rfl) (by kernel_rfl) (fun _ _ _ h => h) rfl ?_ hcx ?_
        rotate_left 1
        · (intro w' hSw; (try dsimp only at hSw); go_simp; first | done | with_reducible rfl)
        simp only [Act.put, List.setIfInBounds_toArray, List.set_cons_zero, List.set_cons_succ]
        refine' wpAnyH_takeD 6 (some 66) (v := _) rfl rfl (by kernel_rfl) (by kernel_rfl) (by kernel_rfl) (fun _ _ _ h => h) rfl ?_ hcx ?_
        rotate_left 1
        · (intro w' hSw; (try dsimp only at hSw); go_simp; first | done | with_reducible rfl)
        simp only [Act.put, List.setIfInBounds_toArray, List.set_cons_zero, List.set_cons_succ]
        refine' wpAnyH_takeD 7 (some 67) (v := _) rfl rfl (by kernel_rfl) (by kernel_rfl) (by kernel_rfl) (fun _ _ _ h => h) rfl ?_ hcx ?_
        rotate_left 1
        · (intro w' hSw; (try dsimp only at hSw); go_simp; first | done | with_reducible rfl)
        simp only [Act.put, List.setIfInBounds_toArray, List.set_cons_zero, List.set_cons_succ]
        refine' wpAnyH_takeD 8 (some 68) (v := _) rfl rfl (by kernel_rfl) (by kernel_rfl) (by kernel_rfl) (fun _ _ _ h => h) rfl ?_ hcx ?_
        rotate_left 1
        · (intro w' hSw; (try dsimp only at hSw); go_simp; first | done | with_reducible rfl)
        simp only [Act.put, List.setIfInBounds_toArray, List.set_cons_zero, List.set_cons_succ]
        refine' wpAnyH_takeD 9 (some 69) (v := _) rfl rfl (by kernel_rfl) (by kernel_rfl) (by kernel_rfl) (fun _ _ _ h => h) rfl ?_ hcx ?_
        rotate_left 1
        · (intro w' hSw; (try dsimp only at hSw); go_simp; first | done | with_reducible rfl)
        simp only [Act.put, List.setIfInBounds_toArray, List.set_cons_zero, List.set_cons_succ]
        refine' wpAnyH_takeD 10 (some 70) (v := _) rfl rfl (by kernel_rfl) (by kernel_rfl) (by kernel_rfl) (fun _ _ _ h => h) rfl ?_ hcx ?_
        rotate_left 1
        · (intro w' hSw; (try dsimp only at hSw); go_simp; first | done | with_reducible rfl)
        simp only [Act.put, List.setIfInBounds_toArray, List.set_cons_zero, List.set_cons_succ]
        refine' wpAnyH_takeD 11 (some 71) (v := _) rfl rfl (by kernel_rfl) (by kernel_rfl) (by kernel_rfl) (fun _ _ _ h => h) rfl ?_ hcx ?_
        rotate_left 1
        · (intro w' hSw; (try dsimp only at hSw); go_simp; first | done | with_reducible rfl)
        simp only [Act.put, List.setIfInBounds_toArray, List.set_cons_zero, List.set_cons_succ]
        refine' wpAnyH_takeD 12 (some 72) (v := _) rfl rfl (by kernel_rfl) (by kernel_rfl) (by kernel_rfl) (fun _ _ _ h => h) rfl ?_ hcx ?_
        rotate_left 1
        · (intro w' hSw; (try dsimp only at hSw); go_simp; first | done | with_reducible rfl)
        simp only [Act.put, List.setIfInBounds_toArray, List.set_cons_zero, List.set_cons_succ]
        refine' wpAnyH_takeD 13 (some 73) (v := _) rfl rfl (by kernel_rfl) (by kernel_rfl) (by kernel_rfl) (fun _ _ _ h => h) rfl ?_ hcx ?_
        rotate_left 1
        · (intro w' hSw; (try dsimp only at hSw); go_simp; first | done | with_reducible rfl)
        simp only [Act.put, List.setIfInBounds_toArray, List.set_cons_zero, List.set_cons_succ]
        refine' wpAnyH_takeD 14 (some 74) (v := _) rfl rfl (by kernel_rfl) (by kernel_rfl) (by kernel_rfl) (fun _ _ _ h => h) rfl ?_ hcx ?_
        rotate_left 1
        · (intro w' hSw; (try dsimp only at hSw); go_simp; first | done | with_reducible rfl)
        simp only [Act.put, List.setIfInBounds_toArray, List.set_cons_zero, List.set_cons_succ]
        refine' wpAnyH_skipD 15 (some 75) rfl rfl (by kernel_rfl) (by kernel_rfl) (by kernel_rfl) (fun _ _ _ h => h) rfl hcx ?_
        simp only [Act.put, List.setIfInBounds_toArray, List.set_cons_zero, List.set_cons_succ]
        refine' wpAnyH_skipD 16 (some 76) rfl rfl (by kernel_rfl) (by kernel_rfl) (by kernel_rfl) (fun _ _ _ h => h) rfl hcx ?_
        simp only [Act.put, List.setIfInBounds_toArray, List.set_cons_zero, List.set_cons_succ]
        refine' wpAnyH_skipD 17 (some 77) rfl rfl (by kernel_rfl) (by kernel_rfl) (by kernel_rfl) (fun _ _ _ h => h) rfl hcx ?_
        simp only [Act.put, List.setIfInBounds_toArray, List.set_cons_zero, List.set_cons_succ]
        refine' wpAnyH_skipD 18 (some 78) rfl rfl (by kernel_rfl) (by kernel_rfl) (by kernel_rfl) (fun _ _ _ h => h) rfl hcx ?_
        simp only [Act.put, List.setIfInBounds_toArray, List.set_cons_zero, List.set_cons_succ]
        refine' wpAnyH_skipD 19 (some 79) rfl rfl (by kernel_rfl) (by kernel_rfl) (by kernel_rfl) (fun _ _ _ h => h) rfl hcx ?_
        simp only [Act.put, List.setIfInBounds_toArray, List.set_cons_zero, List.set_cons_succ]
        refine' wpAnyH_skipD 20 (some 80) rfl rfl (by kernel_rfl) (by kernel_rfl) (by kernel_rfl) (fun _ _ _ h => h) rfl hcx ?_
        simp only [Act.put, List.setIfInBounds_toArray, List.set_cons_zero, List.set_cons_succ]
        refine' wpAnyH_skipD 21 (some 81) rfl rfl (by kernel_rfl) (by kernel_rfl) (by kernel_rfl) (fun _ _ _ h => h) rfl hcx ?_
        simp only [Act.put, List.setIfInBounds_toArray, List.set_cons_zero, List.set_cons_succ]
        refine' wpAnyH_skipD 22 (some 82) rfl rfl (by kernel_rfl) (by kernel_rfl) (by kernel_rfl) (fun _ _ _ h => h) rfl hcx ?_
        simp only [Act.put, List.setIfInBounds_toArray, List.set_cons_zero, List.set_cons_succ]
        refine' wpAnyH_skipD 23 (some 83) rfl rfl (by kernel_rfl) (by kernel_rfl) (by kernel_rfl) (fun _ _ _ h => h) rfl hcx ?_
        simp only [Act.put, List.setIfInBounds_toArray, List.set_cons_zero, List.set_cons_succ]
        refine' wpAnyH_skipD 24 (some 84) rfl rfl (by kernel_rfl) (by kernel_rfl) (by kernel_rfl) (fun _ _ _ h => h) rfl hcx ?_
        simp only [Act.put, List.setIfInBounds_toArray, List.set_cons_zero, List.set_cons_succ]
        refine' wpAnyH_skipD 25 (some 85) rfl rfl (by kernel_rfl) (by kernel_rfl) (by kernel_rfl) (fun _ _ _ h => h) rfl hcx ?_
        simp only [Act.put, List.setIfInBounds_toArray, List.set_cons_zero, List.set_cons_succ]
        refine' wpAnyH_skipD 26 (some 86) rfl rfl (by kernel_rfl) (by kernel_rfl) (by kernel_rfl) (fun _ _ _ h => h) rfl hcx ?_
        simp only [Act.put, List.setIfInBounds_toArray, List.set_cons_zero, List.set_cons_succ]
        refine' wpAnyH_takeD 27 (some 87) (v := _) rfl rfl (by kernel_rfl) (by kernel_rfl) (by kernel_rfl) (fun _ _ _ h => h) rfl ?_ hcx ?_
        rotate_left 1
        · (intro w' hSw; (try dsimp only at hSw); go_simp; first | done | with_reducible rfl)
        simp only [Act.put, List.setIfInBounds_toArray, List.set_cons_zero, List.set_cons_succ]
        refine wpAnyH_done (by kernel_rfl) ?_ _
        go_wp2
        go_ret
        exact ⟨rfl, HBW.out.drew⟩
      have f2 : decide ((x.length : Int) < 2) = false := by simp; omega
      obtain ⟨q, hq⟩ : ∃ q, x.length = q + 2 := ⟨x.length - 2, by omega⟩
      have hw2 : IntKind.i64.wrap ((x.length : Int) - 2) = (q : Int) := by rw [IntWalk.i64_in _ ⟨by omega, by omega⟩]; omega
      have hq2 : (q : Int) ≤ (x.length : Int) := by omega
      have hq0 : (0 : Int) ≤ (q : Int) := by omega
      by_cases e3 : x.drop q = [13, 10]
      · have HC : Hid (crlfB x = true) := by
          unfold Hid crlfB
          rw [show x.length - 2 = q by omega, e3]
          simp
          omega
        have HQ := Lib.hid hq
        clear hq e1 e2
        go_wp2_with fail
        refine wp_region_held_drew (S := fun w' => w'.cell? ⟨ka, off + i, none⟩ = some (S x)) (by kernel_rfl) hcx (fun hHeld => ?_)
        refine' wpAnyH_takeD 0 (some 60) (v := _) rfl rfl (by kernel_rfl) (by kernel_rfl) (by kernel_rfl) (fun _ _ _ h => h) rfl ?_ hcx ?_
        rotate_left 1
        · (intro w' hSw; (try dsimp only at hSw); go_simp; first | done | with_reducible rfl)
        simp only [Act.put, List.setIfInBounds_toArray, List.set_cons_zero, List.set_cons_succ]
        refine' wpAnyH_takeD 1 (some 61) (v := _) rfl rfl (by kernel_rfl) (by kernel_rfl) (by kernel_rfl) (fun _ _ _ h => h) rfl ?_ hcx ?_
        rotate_left 1
        · (intro w' hSw; (try dsimp only at hSw); go_simp; first | done | with_reducible rfl)
        simp only [Act.put, List.setIfInBounds_toArray, List.set_cons_zero, List.set_cons_succ]
        refine' wpAnyH_takeD 2 (some 62) (v := _) rfl rfl (by kernel_rfl) (by kernel_rfl) (by kernel_rfl) (fun _ _ _ h => h) rfl ?_ hcx ?_
        rotate_left 1
        · (intro w' hSw; (try dsimp only at hSw); go_simp; first | done | with_reducible rfl)
        simp only [Act.put, List.setIfInBounds_toArray, List.set_cons_zero, List.set_cons_succ]
        refine' wpAnyH_takeD 3 (some 63) (v := _) rfl rfl (by kernel_rfl) (by kernel_rfl) (by kernel_rfl) (fun _ _ _ h => h) rfl ?_ hcx ?_
        rotate_left 1
        · (intro w' hSw; (try dsimp only at hSw); go_simp; first | done | with_reducible rfl)
        simp only [Act.put, List.setIfInBounds_toArray, List.set_cons_zero, List.set_cons_succ]
        refine' wpAnyH_takeD 4 (some 64) (v := _) rfl rfl (by kernel_rfl) (by kernel_rfl) (by kernel_rfl) (fun _ _ _ h => h) rfl ?_ hcx ?_
        rotate_left 1
        · (intro w' hSw; (try dsimp only at hSw); go_simp; first | done | with_reducible rfl)
        simp only [Act.put, List.setIfInBounds_toArray, List.set_cons_zero, List.set_cons_succ]
        refine' wpAnyH_takeD 5 (some 65) (v := _) rfl rfl (by kernel_rfl) (by kernel_rfl) (by kernel_rfl) (fun _ _ _ h => h) rfl ?_ hcx ?_
        rotate_left 1
        · (intro w' hSw; (try dsimp only at hSw); go_simp; first | done | with_reducible rfl)
        simp only [Act.put, List.setIfInBounds_toArray, List.set_cons_zero, List.set_cons_succ]
        refine' wpAnyH_takeD 6 (some 66) (v := _) rfl rfl (by kernel_rfl) (by kernel_rfl) (by kernel_rfl) (fun _ _ _ h => h) rfl ?_ hcx ?_
        rotate_left 1
        · (intro w' hSw; (try dsimp only at hSw); go_simp; first | done | with_reducible rfl)
        simp only [Act.put, List.setIfInBounds_toArray, List.set_cons_zero, List.set_cons_succ]
        refine' wpAnyH_takeD 7 (some 67) (v := _) rfl rfl (by kernel_rfl) (by kernel_rfl) (by kernel_rfl) (fun _ _ _ h => h) rfl ?_ hcx ?_
        rotate_left 1
        · (intro w' hSw; (try dsimp only at hSw); go_simp; first | done | with_reducible rfl)
        simp only [Act.put, List.setIfInBounds_toArray, List.set_cons_zero, List.set_cons_succ]
        refine' wpAnyH_takeD 8 (some 68) (v := _) rfl rfl (by kernel_rfl) (by kernel_rfl) (by kernel_rfl) (fun _ _ _ h => h) rfl ?_ hcx ?_
        rotate_left 1
        · (intro w' hSw; (try dsimp only at hSw); go_simp; first | done | with_reducible rfl)
        simp only [Act.put, List.setIfInBounds_toArray, List.set_cons_zero, List.set_cons_succ]
        refine' wpAnyH_takeD 9 (some 69) (v := _) rfl rfl (by kernel_rfl) (by kernel_rfl) (by kernel_rfl) (fun _ _ _ h => h) rfl ?_ hcx ?_
        rotate_left 1
        · (intro w' hSw; (try dsimp only at hSw); go_simp; first | done | with_reducible rfl)
        simp only [Act.put, List.setIfInBounds_toArray, List.set_cons_zero, List.set_cons_succ]
        refine' wpAnyH_takeD 10 (some 70) (v := _) rfl rfl (by kernel_rfl) (by kernel_rfl) (by kernel_rfl) (fun _ _ _ h => h) rfl ?_ hcx ?_
        rotate_left 1
        · (intro w' hSw; (try dsimp only at hSw); go_simp; first | done | with_reducible rfl)
        simp only [Act.put, List.setIfInBounds_toArray, List.set_cons_zero, List.set_cons_succ]
        refine' wpAnyH_takeD 11 (some 71) (v := _) rfl rfl (by kernel_rfl) (by kernel_rfl) (by kernel_rfl) (fun _ _ _ h => h) rfl ?_ hcx ?_
        rotate_left 1
        · (intro w' hSw; (try dsimp only at hSw); go_simp; first | done | with_reducible rfl)
        simp only [Act.put, List.setIfInBounds_toArray, List.set_cons_zero, List.set_cons_succ]
        refine' wpAnyH_takeD 12 (some 72) (v := _) rfl rfl (by kernel_rfl) (by kernel_rfl) (by kernel_rfl) (fun _ _ _ h => h) rfl ?_ hcx ?_
        rotate_left 1
        · (intro w' hSw; (try dsimp only at hSw); go_simp; first | done | with_reducible rfl)
        simp only [Act.put, List.setIfInBounds_toArray, List.set_cons_zero, List.set_cons_succ]
        refine' wpAnyH_takeD 13 (some 73) (v := _) rfl rfl (by kernel_rfl) (by kernel_rfl) (by kernel_rfl) (fun _ _ _ h => h) rfl ?_ hcx ?_
        rotate_left 1
        · (intro w' hSw; (try dsimp only at hSw); go_simp; first | done | with_reducible rfl)
        simp only [Act.put, List.setIfInBounds_toArray, List.set_cons_zero, List.set_cons_succ]
        refine' wpAnyH_takeD 14 (some 74) (v := _) rfl rfl (by kernel_rfl) (by kernel_rfl) (by kernel_rfl) (fun _ _ _ h => h) rfl ?_ hcx ?_
        rotate_left 1
        · (intro w' hSw; (try dsimp only at hSw); go_simp; first | done | with_reducible rfl)
        simp only [Act.put, List.setIfInBounds_toArray, List.set_cons_zero, List.set_cons_succ]
        refine' wpAnyH_takeD 15 (some 75) (v := _) rfl rfl (by kernel_rfl) (by kernel_rfl) (by kernel_rfl) (fun _ _ _ h => h) rfl ?_ hcx ?_
        rotate_left 1
        · (intro w' hSw; (try dsimp only at hSw); go_simp; first | done | with_reducible rfl)
        simp only [Act.put, List.setIfInBounds_toArray, List.set_cons_zero, List.set_cons_succ]
        refine' wpAnyH_takeD 16 (some 76) (v := _) rfl rfl (by kernel_rfl) (by kernel_rfl) (by kernel_rfl) (fun _ _ _ h => h) rfl ?_ hcx ?_
        rotate_left 1
        · (intro w' hSw; (try dsimp only at hSw); go_simp; first | done | with_reducible rfl)
        simp only [Act.put, List.setIfInBounds_toArray, List.set_cons_zero, List.set_cons_succ]
        refine' wpAnyH_takeD 17 (some 77) (v := _) rfl rfl (by kernel_rfl) (by kernel_rfl) (by kernel_rfl) (fun _ _ _ h => h) rfl ?_ hcx ?_
        rotate_left 1
        · (intro w' hSw; (try dsimp only at hSw); go_simp; first | done | with_reducible rfl)
        simp only [Act.put, List.setIfInBounds_toArray, List.set_cons_zero, List.set_cons_succ]
        refine' wpAnyH_takeD 18 (some 78) (v := _) rfl rfl (by kernel_rfl) (by kernel_rfl) (by kernel_rfl) (fun _ _ _ h => h) rfl ?_ hcx ?_
        rotate_left 1
        · (intro w' hSw; (try dsimp only at hSw); go_simp; first | done | with_reducible rfl)
        simp only [Act.put, List.setIfInBounds_toArray, List.set_cons_zero, List.set_cons_succ]
        refine' wpAnyH_takeD 19 (some 79) (v := _) rfl rfl (by kernel_rfl) (by kernel_rfl) (by kernel_rfl) (fun _ _ _ h => h) rfl ?_ hcx ?_
        rotate_left 1
        · (intro w' hSw; (try dsimp only at hSw); go_simp; first | done | with_reducible rfl)
        simp only [Act.put, List.setIfInBounds_toArray, List.set_cons_zero, List.set_cons_succ]
        refine' wpAnyH_takeD 20 (some 80) (v := _) rfl rfl (by kernel_rfl) (by kernel_rfl) (by kernel_rfl) (fun _ _ _ h => h) rfl ?_ hcx ?_
        rotate_left 1
        · (intro w' hSw; (try dsimp only at hSw); go_simp; first | done | with_reducible rfl)
        simp only [Act.put, List.setIfInBounds_toArray, List.set_cons_zero, List.set_cons_succ]
        refine' wpAnyH_takeD 21 (some 81) (v := _) rfl rfl (by kernel_rfl) (by kernel_rfl) (by kernel_rfl) (fun _ _ _ h => h) rfl ?_ hcx ?_
        rotate_left 1
        · (intro w' hSw; (try dsimp only at hSw); go_simp; first | done | with_reducible rfl)
        simp only [Act.put, List.setIfInBounds_toArray, List.set_cons_zero, List.set_cons_succ]
        refine' wpAnyH_takeD 22 (some 82) (v := _) rfl rfl (by kernel_rfl) (by kernel_rfl) (by kernel_rfl) (fun _ _ _ h => h) rfl ?_ hcx ?_
        rotate_left 1
        · (intro w' hSw; (try dsimp only at hSw); go_simp; first | done | with_reducible rfl)
        simp only [Act.put, List.setIfInBounds_toArray, List.set_cons_zero, List.set_cons_succ]
        refine' wpAnyH_takeD 23 (some 83) (v := _) rfl rfl (by kernel_rfl) (by kernel_rfl) (by kernel_rfl) (fun _ _ _ h => h) rfl ?_ hcx ?_
        rotate_left 1
        · (intro w' hSw; (try dsimp only at hSw); go_simp; first | done | with_reducible rfl)
        simp only [Act.put, List.setIfInBounds_toArray, List.set_cons_zero, List.set_cons_succ]
        refine' wpAnyH_takeD 24 (some 84) (v := _) rfl rfl (by kernel_rfl) (by kernel_rfl) (by kernel_rfl) (fun _ _ _ h => h) rfl ?_ hcx ?_
        rotate_left 1
        · (intro w' hSw; (try dsimp only at hSw); go_simp; first | done | with_reducible rfl)
        simp only [Act.put, List.setIfInBounds_toArray, List.set_cons_zero, List.set_cons_succ]
        refine' wpAnyH_takeD 25 (some 85) (v := _) rfl rfl (by kernel_rfl) (by kernel_rfl) (by kernel_rfl) (fun _ _ _ h => h) rfl ?_ hcx ?_
        rotate_left 1
        · (intro w' hSw; (try dsimp only at hSw); go_simp; first | done | with_reducible rfl)
        simp only [Act.put, List.setIfInBounds_toArray, List.set_cons_zero, List.set_cons_succ]
        refine' wpAnyH_takeD 26 (some 86) (v := _) rfl rfl (by kernel_rfl) (by kernel_rfl) (by kernel_rfl) (fun _ _ _ h => h) rfl ?_ hcx ?_
        rotate_left 1
        · (intro w' hSw; (try dsimp only at hSw); go_simp; first | done | with_reducible rfl)
        simp only [Act.put, List.setIfInBounds_toArray, List.set_cons_zero, List.set_cons_succ]
        refine' wpAnyH_takeD 27 (some 87) (v := _) rfl rfl (by kernel_rfl) (by kernel_rfl) (by kernel_rfl) (fun _ _ _ h => h) rfl ?_ hcx ?_
        rotate_left 1
        · (intro w' hSw; (try dsimp only at hSw); go_simp; first | done | with_reducible rfl)
        simp only [Act.put, List.setIfInBounds_toArray, List.set_cons_zero, List.set_cons_succ]
        refine wpAnyH_done (by kernel_rfl) ?_ _
        go_wp2
        go_roundg g
        case measure => omega
        case rel =>
          refine ⟨i + 1, by omega, by simp, fun y hy => ?_, HBX.out.drew⟩
          rw [List.take_add_one, HX.out] at hy
          rcases List.mem_append.1 hy with q | q
          · exact HPRE.out y q
          · obtain rfl : y = x := by simpa using q
            exact HC.out
      · have HQ := Lib.hid hq
        have e4 : (x.drop q == [13, 10]) = false := beq_eq_false_iff_ne.2 e3
        clear hq e1 e2
        go_wp2_with fail
        refine wp_region_held_drew (S := fun w' => w'.cell? ⟨ka, off + i, none⟩ = some (S x)) (by kernel_rfl) hcx (fun hHeld => ?_)
        refine' wpAnyH_takeD 0 (some 60) (v := _) rfl rfl (by kernel_rfl) (by kernel_rfl) (by kernel_rfl) (fun _ _ _ h => h) rfl ?_ hcx ?_
        rotate_left 1
        · (intro w' hSw; (try dsimp only at hSw); go_simp; first | done | with_reducible rfl)
        simp only [Act.put, List.setIfInBounds_toArray, List.set_cons_zero, List.set_cons_succ]
        refine' wpAnyH_takeD 1 (some 61) (v := _) rfl rfl (by kernel_rfl) (by kernel_rfl) (by kernel_rfl) (fun _ _ _ h => h) rfl ?_ hcx ?_
        rotate_left 1
        · (intro w' hSw; (try dsimp only at hSw); go_simp; first | done | with_reducible rfl)
        simp only [Act.put, List.setIfInBounds_toArray, List.set_cons_zero, List.set_cons_succ]
        refine' wpAnyH_takeD 2 (some 62) (v := _) rfl rfl (by kernel_rfl) (by kernel_rfl) (by kernel_rfl) (fun _ _ _ h => h) rfl ?_ hcx ?_
        rotate_left 1
        · (intro w' hSw; (try dsimp only at hSw); go_simp; first | done | with_reducible rfl)
        simp only [Act.put, List.setIfInBounds_toArray, List.set_cons_zero, List.set_cons_succ]
        refine' wpAnyH_takeD 3 (some 63) (v := _) rfl rfl (by kernel_rfl) (by kernel_rfl) (by kernel_rfl) (fun _ _ _ h => h) rfl ?_ hcx ?_
        rotate_left 1
        · (intro w' hSw; (try dsimp only at hSw); go_simp; first | done | with_reducible rfl)
        simp only [Act.put, List.setIfInBounds_toArray, List.set_cons_zero, List.set_cons_succ]
        refine' wpAnyH_takeD 4 (some 64) (v := _) rfl rfl (by kernel_rfl) (by kernel_rfl) (by kernel_rfl) (fun _ _ _ h => h) rfl ?_ hcx ?_
        rotate_left 1
        · (intro w' hSw; (try dsimp only at hSw); go_simp; first | done | with_reducible rfl)
        simp only [Act.put, List.setIfInBounds_toArray, List.set_cons_zero, List.set_cons_succ]
        refine' wpAnyH_takeD 5 (some 65) (v := _) rfl rfl (by kernel_rfl) (by kernel_rfl) (by kernel_rfl) (fun _ _ _ h => h) rfl ?_ hcx ?_
        rotate_left 1
        · (intro w' hSw; (try dsimp only at hSw); go_simp; first | done | with_reducible rfl)
        simp only [Act.put, List.setIfInBounds_toArray, List.set_cons_zero, List.set_cons_succ]
        refine' wpAnyH_takeD 6 (some 66) (v := _) rfl rfl (by kernel_rfl) (by kernel_rfl) (by kernel_rfl) (fun _ _ _ h => h) rfl ?_ hcx ?_
        rotate_left 1
        · (intro w' hSw; (try dsimp only at hSw); go_simp; first | done | with_reducible rfl)
        simp only [Act.put, List.setIfInBounds_toArray, List.set_cons_zero, List.set_cons_succ]
        refine' wpAnyH_takeD 7 (some 67) (v := _) rfl rfl (by kernel_rfl) (by kernel_rfl) (by kernel_rfl) (fun _ _ _ h => h) rfl ?_ hcx ?_
        rotate_left 1
        · (intro w' hSw; (try dsimp only at hSw); go_simp; first | done | with_reducible rfl)
        simp only [Act.put, List.setIfInBounds_toArray, List.set_cons_zero, List.set_cons_succ]
        refine' wpAnyH_takeD 8 (some 68) (v := _) rfl rfl (by kernel_rfl) (by kernel_rfl) (by kernel_rfl) (fun _ _ _ h => h) rfl ?_ hcx ?_
        rotate_left 1
        · (intro w' hSw; (try dsimp only at hSw); go_simp; first | done | with_reducible rfl)
        simp only [Act.put, List.setIfInBounds_toArray, List.set_cons_zero, List.set_cons_succ]
        refine' wpAnyH_takeD 9 (some 69) (v := _) rfl rfl (by kernel_rfl) (by kernel_rfl) (by kernel_rfl) (fun _ _ _ h => h) rfl ?_ hcx ?_
        rotate_left 1
        · (intro w' hSw; (try dsimp only at hSw); go_simp; first | done | with_reducible rfl)
        simp only [Act.put, List.setIfInBounds_toArray, List.set_cons_zero, List.set_cons_succ]
        refine' wpAnyH_takeD 10 (some 70) (v := _) rfl rfl (by kernel_rfl) (by kernel_rfl) (by kernel_rfl) (fun _ _ _ h => h) rfl ?_ hcx ?_
        rotate_left 1
        · (intro w' hSw; (try dsimp only at hSw); go_simp; first | done | with_reducible rfl)
        simp only [Act.put, List.setIfInBounds_toArray, List.set_cons_zero, List.set_cons_succ]
        refine' wpAnyH_takeD 11 (some 71) (v := _) rfl rfl (by kernel_rfl) (by kernel_rfl) (by kernel_rfl) (fun _ _ _ h => h) rfl ?_ hcx ?_
        rotate_left 1
        · (intro w' hSw; (try dsimp only at hSw); go_simp; first | done | with_reducible rfl)
        simp only [Act.put, List.setIfInBounds_toArray, List.set_cons_zero, List.set_cons_succ]
        refine' wpAnyH_takeD 12 (some 72) (v := _) rfl rfl (by kernel_rfl) (by kernel_rfl) (by kernel_rfl) (fun _ _ _ h => h) rfl ?_ hcx ?_
        rotate_left 1
        · (intro w' hSw; (try dsimp only at hSw); go_simp; first | done | with_reducible rfl)
        simp only [Act.put, List.setIfInBounds_toArray, List.set_cons_zero, List.set_cons_succ]
        refine' wpAnyH_takeD 13 (some 73) (v := _) rfl rfl (by kernel_rfl) (by kernel_rfl) (by kernel_rfl) (fun _ _ _ h => h) rfl ?_ hcx ?_
        rotate_left 1
        · (intro w' hSw; (try dsimp only at hSw); go_simp; first | done | with_reducible rfl)
        simp only [Act.put, List.setIfInBounds_toArray, List.set_cons_zero, List.set_cons_succ]
        refine' wpAnyH_takeD 14 (some 74) (v := _) rfl rfl (by kernel_rfl) (by kernel_rfl) (by kernel_rfl) (fun _ _ _ h => h) rfl ?_ hcx ?_
        rotate_left 1
        · (intro w' hSw; (try dsimp only at hSw); go_simp; first | done | with_reducible rfl)
        simp only [Act.put, List.setIfInBounds_toArray, List.set_cons_zero, List.set_cons_succ]
        refine' wpAnyH_takeD 15 (some 75) (v := _) rfl rfl (by kernel_rfl) (by kernel_rfl) (by kernel_rfl) (fun _ _ _ h => h) rfl ?_ hcx ?_
        rotate_left 1
        · (intro w' hSw; (try dsimp only at hSw); go_simp; first | done | with_reducible rfl)
        simp only [Act.put, List.setIfInBounds_toArray, List.set_cons_zero, List.set_cons_succ]
        refine' wpAnyH_takeD 16 (some 76) (v := _) rfl rfl (by kernel_rfl) (by kernel_rfl) (by kernel_rfl) (fun _ _ _ h => h) rfl ?_ hcx ?_
        rotate_left 1
        · (intro w' hSw; (try dsimp only at hSw); go_simp; first | done | with_reducible rfl)
        simp only [Act.put, List.setIfInBounds_toArray, List.set_cons_zero, List.set_cons_succ]
        refine' wpAnyH_takeD 17 (some 77) (v := _) rfl rfl (by kernel_rfl) (by kernel_rfl) (by kernel_rfl) (fun _ _ _ h => h) rfl ?_ hcx ?_
        rotate_left 1
        · (intro w' hSw; (try dsimp only at hSw); go_simp; first | done | with_reducible rfl)
        simp only [Act.put, List.setIfInBounds_toArray, List.set_cons_zero, List.set_cons_succ]
        refine' wpAnyH_takeD 18 (some 78) (v := _) rfl rfl (by kernel_rfl) (by kernel_rfl) (by kernel_rfl) (fun _ _ _ h => h) rfl ?_ hcx ?_
        rotate_left 1
        · (intro w' hSw; (try dsimp only at hSw); go_simp; first | done | with_reducible rfl)
        simp only [Act.put, List.setIfInBounds_toArray, List.set_cons_zero, List.set_cons_succ]
        refine' wpAnyH_takeD 19 (some 79) (v := _) rfl rfl (by kernel_rfl) (by kernel_rfl) (by kernel_rfl) (fun _ _ _ h => h) rfl ?_ hcx ?_
        rotate_left 1
        · (intro w' hSw; (try dsimp only at hSw); go_simp; first | done | with_reducible rfl)
        simp only [Act.put, List.setIfInBounds_toArray, List.set_cons_zero, List.set_cons_succ]
        refine' wpAnyH_takeD 20 (some 80) (v := _) rfl rfl (by kernel_rfl) (by kernel_rfl) (by kernel_rfl) (fun _ _ _ h => h) rfl ?_ hcx ?_
        rotate_left 1
        · (intro w' hSw; (try dsimp only at hSw); go_simp; first | done | with_reducible rfl)
        simp only [Act.put, List.setIfInBounds_toArray, List.set_cons_zero, List.set_cons_succ]
        refine' wpAnyH_takeD 21 (some 81) (v := _) rfl rfl (by kernel_rfl) (by kernel_rfl) (by kernel_rfl) (fun _ _ _ h => h) rfl ?_ hcx ?_
        rotate_left 1
        · (intro w' hSw; (try dsimp only at hSw); go_simp; first | done | with_reducible rfl)
        simp only [Act.put, List.setIfInBounds_toArray, List.set_cons_zero, List.set_cons_succ]
        refine' wpAnyH_takeD 22 (some 82) (v := _) rfl rfl (by kernel_rfl) (by kernel_rfl) (by kernel_rfl) (fun _ _ _ h => h) rfl ?_ hcx ?_
        rotate_left 1
        · (intro w' hSw; (try dsimp only at hSw); go_simp; first | done | with_reducible rfl)
        simp only [Act.put, List.setIfInBounds_toArray, List.set_cons_zero, List.set_cons_succ]
        refine' wpAnyH_takeD 23 (some 83) (v := _) rfl rfl (by kernel_rfl) (by kernel_rfl) (by kernel_rfl) (fun _ _ _ h => h) rfl ?_ hcx ?_
        rotate_left 1
        · (intro w' hSw; (try dsimp only at hSw); go_simp; first | done | with_reducible rfl)
        simp only [Act.put, List.setIfInBounds_toArray, List.set_cons_zero, List.set_cons_succ]
        refine' wpAnyH_takeD 24 (some 84) (v := _) rfl rfl (by kernel_rfl) (by kernel_rfl) (by kernel_rfl) (fun _ _ _ h => h) rfl ?_ hcx ?_
        rotate_left 1
        · (intro w' hSw; (try dsimp only at hSw); go_simp; first | done | with_reducible rfl)
        simp only [Act.put, List.setIfInBounds_toArray, List.set_cons_zero, List.set_cons_succ]
        refine' wpAnyH_takeD 25 (some 85) (v := _) rfl rfl (by kernel_rfl) (by kernel_rfl) (by kernel_rfl) (fun _ _ _ h => h) rfl ?_ hcx ?_
        rotate_left 1
        · (intro w' hSw; (try dsimp only at hSw); go_simp; first | done | with_reducible rfl)
        simp only [Act.put, List.setIfInBounds_toArray, List.set_cons_zero, List.set_cons_succ]
        refine' wpAnyH_takeD 26 (some 86) (v := _) rfl rfl (by kernel_rfl) (by kernel_rfl) (by kernel_rfl) (fun _ _ _ h => h) rfl ?_ hcx ?_
        rotate_left 1
        · (intro w' hSw; (try dsimp only at hSw); go_simp; first | done | with_reducible rfl)
        simp only [Act.put, List.setIfInBounds_toArray, List.set_cons_zero, List.set_cons_succ]
        refine' wpAnyH_takeD 27 (some 87) (v := _) rfl rfl (by kernel_rfl) (by kernel_rfl) (by kernel_rfl) (fun _ _ _ h => h) rfl ?_ hcx ?_
        rotate_left 1
        · (intro w' hSw; (try dsimp only at hSw); go_simp; first | done | with_reducible rfl)
        simp only [Act.put, List.setIfInBounds_toArray, List.set_cons_zero, List.set_cons_succ]
        refine wpAnyH_done (by kernel_rfl) ?_ _
        go_wp2
        go_ret
        exact ⟨rfl, HBW.out.drew⟩
    | zero =>
      have d : decide ((i : Int) < (L.length : Int)) = false := by simp; omega
      have HCR : Hid (∀ x ∈ linesL text, crlfB x = true) := by
        unfold Hid
        rw [HLT.out]
        have := HPRE.out
        rw [List.take_of_length_le (by omega)] at this
        exact this
      obtain ⟨nL, hnL⟩ : ∃ nL, L.length = nL := ⟨_, rfl⟩
      rw [hnL] at d hig HRL ⊢
      obtain rfl : nL = i := by omega
      clear hnL HRD HLL HLT HPRE hig
      have GX' := GX
      clear G1 G2 HB1 HB2
      go_wp2_with fail
      refine (new_calls wr GX m).mono ?_
      rintro e w3 ⟨rfl, hs3, hb3⟩
      have HH3 : Hid (HandR w (wr.heap.size + 1) (newS m) (.slice none 0 0) [] w3) :=
        ⟨_, _, hs3, RowAt.nil _ _, fun k q => (by simp [Value.ownBlock] at q), fun k q => (by simp [Value.ownBlock] at q), fun k q => by have := HBW.out.size; rcases q with q | q <;> omega, HBW.out.trans (hb3.mono HBW.out.size)⟩
      obtain ⟨b, hb⟩ : ∃ b, wr.heap.size + 1 = b := ⟨_, rfl⟩
      rw [hb] at HH3 ⊢
      have G3 := GX.below' hb3
      clear hs3 hb3 hb GX HBX HBW
      go_wp2_with fail
      refine (HH3.out.feed G3 0 (new_ok m) ehloX (by decide)).mono ?_
      rw [hands_ehlo m]
      rintro e w4 ⟨rfl, h4⟩
      obtain ⟨st, hst⟩ : ∃ st, ehloT (mostL m) ++ okL = 50 :: st := ⟨_, rfl⟩
      rw [hst]
      have H4 := Lib.hid h4.fresh
      have G4 : Glob w4 := G.below' h4.keep
      clear h4 hst HH3 G3
      obtain ⟨mn, hmn⟩ : ∃ mn : Nat, many = (mn : Int) := ⟨many.toNat, by omega⟩
      subst hmn
      go_wp2_with fail
      go_loopg [15] mn (fun g v15 wx => ∃ n : Nat, n + g = mn ∧ v15 = .int .i64 n ∧ HandR w b (sG m) (.slice none 0 0) [] wx)
      case atStart => exact ⟨0, by omega, rfl, H4.out⟩
      case round =>
        obtain ⟨n, hng, rfl, hh⟩ := hrel
        have HH := Lib.hid hh
        have GY : Glob wr := G.below' hh.keep
        clear hh H4
        cases gk with
        | zero =>
          have dn : decide ((n : Int) < (mn : Int)) = false := by simp; omega
          go_wp2
          go_ret
          exact ⟨rfl, HH.out.keep⟩
        | succ g =>
          have dn : decide ((n : Int) < (mn : Int)) = true := by simp; omega
          have hnw : IntKind.i64.wrap ((n : Int) + 1) = ((n + 1 : Nat) : Int) := by rw [IntWalk.i64_in _ ⟨by omega, by omega⟩]; omega
          go_wp2_with fail
          refine (HH.out.feed GY 0 (sG_ok m) mailX (by decide)).mono ?_
          rw [hands_mail m, show okL = [50, 53, 48, 32, 79, 75, 13, 10] from rfl]
          rintro e w5 ⟨rfl, h5⟩
          have H5 := Lib.hid h5
          clear h5
          go_wp2_with fail
          go_loopg [19, 20] tos.length (fun g2 v19 v20 wx => ∃ (i : Nat) (rs : List Bs), i + g2 = tos.length ∧ v20 = .int .i64 i ∧ rs.length ≤ i ∧ (0 < i → rs ≠ []) ∧ HandR w b (sM m rs) v19 rs wx)
          case atStart => exact ⟨0, [], by omega, rfl, Nat.le_refl _, fun q => absurd q (by omega), H5.out⟩
          case round =>
            obtain ⟨i, rs, hig, rfl, hrl, hrn, hh⟩ := hrel
            have HI := Lib.hid hh
            have GI : Glob wr := G.below' hh.keep
            obtain ⟨ra, rc, hra⟩ := hh.slice
            subst hra
            clear hh H5
            cases gk with
            | succ g2 =>
              have hi : i < tos.length := by omega
              have d : decide ((i : Int) < (tos.length : Int)) = true := by simp; omega
              have hi0 : (0 : Int) ≤ (i : Int) := by omega
              have hil : (i : Int) < (tos.length : Int) := by omega
              have hjw : IntKind.i64.wrap ((i : Int) + 1) = ((i + 1 : Nat) : Int) := by rw [IntWalk.i64_in _ ⟨by omega, by omega⟩]; omega
              obtain ⟨x, hx⟩ : ∃ x, tos[i]? = some x := ⟨tos[i], List.getElem?_eq_getElem hi⟩
              obtain ⟨ka2, off2, rfl, hcx, hx16⟩ : ∃ k off, a = some ⟨k, off, none⟩ ∧ wr.cell? ⟨k, off + i, none⟩ = some (.int .u16 (x : Nat)) ∧ x < 65536 := by
                obtain ⟨a', c', e, h16, hrd⟩ := HTO.out.below HI.out.keep
                cases e
                obtain ⟨k, off, e2, hrd⟩ := hrd (by intro e; rw [e] at hi; simp at hi)
                exact ⟨k, off, e2, hrd i x hx, h16 x (List.mem_of_getElem? hx)⟩
              have hxw : IntKind.i64.wrap (x : Int) = (x : Int) := IntWalk.i64_in _ ⟨by omega, by omega⟩
              obtain ⟨ta, hta, hadr, ht1', ht21, -⟩ := addr_facts x hx16
              have HTA := Lib.hid hta
              have HADR := Lib.hid hadr
              clear hx hadr hta
              go_wp2_with fail
              refine (text_calls (x : Int) (by omega) (by omega) _ GI).mono ?_
              rw [HTA.out]
              rintro e w6 ⟨rfl, hb6⟩
              have H6 := Lib.hid (HI.out.frame hb6)
              have G6 := GI.below' hb6
              have hfe := hands_rcpt m rs (by omega) x hx16
              have hch : rcptX (addrX x) = 82 :: 67 :: 80 :: 84 :: 32 :: 84 :: 79 :: 58 :: 60 :: 114 :: (ta ++ [64, 100, 62, 13, 10]) := by rw [HADR.out]; simp [rcptX]
              rw [hch, show okL = [50, 53, 48, 32, 79, 75, 13, 10] from rfl] at hfe
              have HFE := Lib.hid hfe
              obtain ⟨al1, al2, al3⟩ := addL_len rs (addrX x)
              clear hb6 HI GI hch hfe
              go_wp2_with fail
              refine (H6.out.feed G6 0 (sM_ok m rs (by omega)) _ (by simp; omega)).mono ?_
              rw [HFE.out]
              rintro e w7 ⟨rfl, h7⟩
              have H7 := Lib.hid h7
              have G7 : Glob w7 := G.below' h7.keep
              have HADE : Hid (addrX x = 114 :: (ta ++ [64, 100])) := HADR.out
              obtain ⟨ad, had⟩ : ∃ ad, addrX x = ad := ⟨_, rfl⟩
              have H7' := H7.out
              have HADE2 := HADE.out
              rw [had] at H7' HADE2 al1 al2 al3
              rw [← HADE2]
              have H8 := Lib.hid H7'
              clear h7 HFE H6 G6 had H7' HADE2 H7 HADE HADR HTA
              go_wp2_with fail
              refine (has_calls _ _ rs H8.out.reads (by omega) ad).mono ?_
              rintro e w8 ⟨rfl, hw8⟩
              rw [hw8]
              clear hw8 w8
              cases hco : rs.contains ad
              · have hal : addL rs ad = rs ++ [ad] := by unfold addL; rw [hco]; rfl
                obtain ⟨v4, w9, hrun, h9⟩ := H8.out.append G7.sz (by omega) ad
                have H9 := Lib.hid h9
                clear hco h9
                go_wp2_with (at_builtin; refine wpList_append_known rfl _ _ 22 rfl _ _ rfl rfl _ _ hrun ?_)
                go_roundg g2
                case measure => omega
                case rel =>
                  refine ⟨i + 1, rs ++ [ad], by omega, by simp, by simp; omega, fun _ => by simp, ?_⟩
                  have := H9.out
                  rw [hal] at this
                  exact this
              · have hal : addL rs ad = rs := by unfold addL; rw [hco]; rfl
                clear hco
                go_wp2
                go_roundg g2
                case measure => omega
                case rel =>
                  have := H8.out
                  rw [hal] at this al3
                  exact ⟨i + 1, rs, by omega, by simp, by omega, fun _ => al3, this⟩
            | zero =>
              have d : decide ((i : Int) < (tos.length : Int)) = false := by simp; omega
              have hrne : rs ≠ [] := hrn (by omega)
              have hr16 : rs.length ≤ 16 := by omega
              obtain ⟨nt, hnt⟩ : ∃ nt, tos.length = nt := ⟨_, rfl⟩
              rw [hnt] at d hig ⊢
              obtain rfl : nt = i := by omega
              have HNT := Lib.hid hnt
              clear hnt hig hrn hrl
              go_wp2_with fail
              refine (HI.out.feed GI 0 (sM_ok m rs hr16) dataX (by decide)).mono ?_
              rw [hands_data m rs hrne, reply354]
              rintro e w6 ⟨rfl, h6⟩
              have H6 := Lib.hid h6
              have G6 : Glob w6 := G.below' h6.keep
              clear h6 HI GI
              go_wp2_with fail
              refine (stuff_calls text (by omega) w6 G6).mono ?_
              rintro e w7 ⟨rfl, hb7⟩
              have H7 := Lib.hid (H6.out.frame hb7)
              have G7 := G6.below' hb7
              have hsl : (stuffL text).length ≤ 8000 := by
                have e1 := stuff_len (linesL text) (lines_ne text)
                rw [(lines_flat text).1] at e1
                unfold stuffL
                omega
              have hte := hands_text m rs text HCR.out
              obtain ⟨sl, hsl2⟩ : ∃ sl, stuffL text = sl := ⟨_, rfl⟩
              rw [hsl2] at hsl hte ⊢
              have HTE := Lib.hid hte
              have hbd : ¬ 9223372036854775807 < sl.length + 3 := by omega
              have hml : ((mostL m : Nat) : Int) = min (max m 1) 65536 := by unfold mostL; omega
              have HML := Lib.hid hml
              clear hb7 H6 G6 hte hsl2 hml
              go_wp2_with fail
              refine (H7.out.feed G7 0 (sB_ok m rs hr16) _ (by simp; omega)).mono ?_
              rw [HTE.out]
              clear HTE
              by_cases hbig : mostL m < text.length
              · rw [if_pos hbig, reply552]
                rintro e w8 ⟨rfl, h8⟩
                have H8 := Lib.hid h8
                have dB : decide (min (max m 1) 65536 < (text.length : Int)) = true := by rw [← HML.out]; exact decide_eq_true (by omega)
                clear h8 hbig H7 G7
                go_wp2
                have hnt := HNT.out
                subst hnt
                go_roundg g
                case measure => omega
                case rel => exact ⟨n + 1, by omega, by simp, H8.out.fresh⟩
              · rw [if_neg hbig]
                rintro e w8 ⟨rfl, h8⟩
                have H8 := Lib.hid h8
                have G8 : Glob w8 := G.below' h8.keep
                have dB : decide (min (max m 1) 65536 < (text.length : Int)) = false := by rw [← HML.out]; exact decide_eq_false (by omega)
                clear h8 hbig H7 G7
                go_wp2_with fail
                refine (H8.out.mail G8 rfl fromX text rfl rfl (by show rs.length ≤ _; omega)).mono ?_
                rintro e w9 ⟨v2, rfl, hr2, h9⟩
                have H9 := Lib.hid h9
                obtain ⟨va, vc, hv2⟩ := hr2.slice
                rw [strsV_len] at hv2
                replace hv2 : v2 = .slice va rs.length vc := hv2
                subst hv2
                have HR2 := Lib.hid hr2
                clear h9 hr2
                go_wp2_with fail
                obtain ⟨w10, hw10⟩ : ∃ w10, w9.alloc (.cells #[S [97, 64, 98], .slice va rs.length vc, S text] 35) = w10 := ⟨_, rfl⟩
                have hb10 : Below w9.heap.size w9 w10 := by rw [← hw10]; exact (Below.refl _ _).alloc (Nat.le_refl _) _
                have H10 := Lib.hid (H9.out.frame hb10)
                have hra10 : RowAt w10 9 (.slice va rs.length vc) (strsV rs) := HR2.out.heap fun k e => hb10.block k (HR2.out.lt k e).2
                have h810 : 8 ≤ w10.heap.size := by have := H9.out.keep.size; have := G.sz; have := hb10.size; omega
                refine (show Calls Tryz.prog 18 _ (w9.alloc (.cells #[S [97, 64, 98], .slice va rs.length vc, S text] 35)) _ from ?_)
                rw [hw10]
                refine (same_calls w10 h810 (fromX, rs, text) (fromX, rs, text) (.slice va rs.length vc) (.slice ra rs.length rc) hra10 H10.out.row).mono ?_
                rw [show decide ((fromX, rs, text) = (fromX, rs, text)) = true from decide_eq_true rfl]
                rintro e w11 ⟨rfl, hb11⟩
                have H11 := Lib.hid (H10.out.frame hb11)
                have G11 : Glob w11 := G.below' H11.out.keep
                clear hw10 hb10 hra10 h810 hb11 H10 H9 HR2
                go_wp2_with fail
                refine (H11.out.answer G11 0).mono ?_
                rw [hands_answer m rs text, show okL = [50, 53, 48, 32, 79, 75, 13, 10] from rfl]
                rintro e w12 ⟨rfl, h12⟩
                have H12 := Lib.hid h12
                clear h12 H11 G11
                go_wp2
                have hnt := HNT.out
                subst hnt
                go_roundg g
                case measure => omega
                case rel => exact ⟨n + 1, by omega, by simp, H12.out.fresh⟩
end Go.Proofs.YtapanjfheddfnaaGreatDoor
