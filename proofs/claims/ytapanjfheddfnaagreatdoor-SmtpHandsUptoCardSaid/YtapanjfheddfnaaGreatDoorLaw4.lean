/- SmtpPieces: the walk. -/
import Derived.Test.YtapanjfheddfnaaGreatDoorWholeW
import Derived.Test.YtapanjfheddfnaaGreatDoorSmallW
import Derived.Test.YtapanjfheddfnaaGreatDoorSame
import Derived.Test.YtapanjfheddfnaaGreatDoorBridge
namespace Go.Proofs.YtapanjfheddfnaaGreatDoor
open Go.RowKit Go.Shelf
attribute [local go_sem high] ext_to ext_from
attribute [local go_sem] ext_list app_list size_list

theorem cellB {w w' : World} (h : Below w.heap.size w w') {q : Addr} {u : Value} (hq : w.cell? q = some u) : w'.cell? q = some u := (World.cell?_of_block (h.block q.block (World.block_lt_of_cell? _ q hq))).trans hq
theorem sumL_flatten (l : List Bs) : l.flatten.length = sumL l := by
  induction l with
  | nil => rfl
  | cons x l ih =>
    rw [List.flatten_cons, List.length_append, ih]
    simp [sumL]

set_option maxHeartbeats 8000000 in
set_option maxRecDepth 100000 in
theorem law4_calls (w : World) (G : Glob w) (m cut : Int) (v va : Value) (l : List Bs) (an : List Int) (hl : ReadsAt w v l) (ha : IntsAt w va an) (hn : l.length ≤ 2000000) (hs : sumL l ≤ 2000000) (han : an.length ≤ 2000000) :
    Calls Tryz.prog 4 #[.int .i64 m, v, .int .i64 cut, va] w fun e w' => e = .returned (.bool true) ∧ Below w.heap.size w w' := by
  have HL := Lib.hid hl
  have HA := Lib.hid ha
  obtain ⟨a, c, rfl, hc⟩ := id hl
  obtain ⟨a2, c2, rfl, hc2⟩ := id ha
  clear hl ha hc hc2
  go_enter Tryz.func4, Tryz.ntmps4
  go_wp2_with fail
  refine (small_calls w G).mono ?_
  rintro e w1 ⟨rfl, hb1⟩
  have HB1 := Lib.hid hb1
  have G1 := G.below' hb1
  have HL1 := Lib.hid (HL.out.below hb1)
  have HA1 := Lib.hid (HA.out.below hb1)
  clear hb1
  go_wp2_with fail
  refine (few_calls w1 _ l HL1.out hn hs).mono ?_
  rintro e w2 ⟨rfl, hw2⟩
  rw [hw2]
  clear hw2
  cases hf : fewL l
  · go_wp2
    go_ret
    exact ⟨rfl, HB1.out⟩
  · have hf2 : l.length ≤ 60 ∧ sumL l ≤ 6000 := by
      unfold fewL at hf
      simp only [Bool.and_eq_true, decide_eq_true_eq] at hf
      have e : l.take 100 = l := List.take_of_length_le (by omega)
      rw [e] at hf
      exact hf
    obtain ⟨h60, h6000⟩ := hf2
    clear hf
    go_wp2_with fail
    go_loopg [10, 11] l.length (fun g v10 v11 wx => ∃ i : Nat, i + g = l.length ∧ v10 = S (l.take i).flatten ∧ v11 = .int .i64 i ∧ wx = w1)
    case atStart => exact ⟨0, by omega, rfl, rfl, rfl⟩
    case round =>
      obtain ⟨i, hig, rfl, rfl, rfl⟩ := hrel
      cases gk with
      | succ g =>
        have hi : i < l.length := by omega
        have d : decide ((i : Int) < (l.length : Int)) = true := by simp; omega
        have hi0 : (0 : Int) ≤ (i : Int) := by omega
        have hil : (i : Int) < (l.length : Int) := by omega
        obtain ⟨x, hx⟩ : ∃ x, l[i]? = some x := ⟨l[i], List.getElem?_eq_getElem hi⟩
        obtain ⟨ka, off, rfl, hcx⟩ : ∃ k off, a = some ⟨k, off, none⟩ ∧ wr.cell? ⟨k, off + i, none⟩ = some (S x) := by
          obtain ⟨a', c', e, hr⟩ := HL1.out
          cases e
          obtain ⟨k, off, e2, hr⟩ := hr (by intro e; rw [e] at hi; simp at hi)
          exact ⟨k, off, e2, hr i x hx⟩
        have hsum := sumL_take_succ l i x hx
        have hle := sumL_take_le l (i + 1)
        have hfl := sumL_flatten (l.take i)
        have htk : Hid (l.take (i + 1) = l.take i ++ [x]) := by
          unfold Hid
          rw [List.take_add_one, hx]
          rfl
        obtain ⟨y, hy⟩ : ∃ y, (l.take i).flatten = y := ⟨_, rfl⟩
        rw [hy] at hfl
        have HY := Lib.hid hy
        have hbd : ¬ 9223372036854775807 < y.length + x.length := by omega
        rw [hy]
        clear hx hsum hle hfl hy
        go_wp2
        go_roundg g
        case measure => omega
        case rel =>
          refine ⟨i + 1, by omega, ?_, by simp, rfl⟩
          rw [htk.out, List.flatten_append, HY.out]
          simp
      | zero =>
        have d : decide ((i : Int) < (l.length : Int)) = false := by simp; omega
        have hti : l.take i = l := List.take_of_length_le (by omega)
        rw [hti]
        clear hti
        obtain ⟨y, hy⟩ : ∃ y, l.flatten = y := ⟨_, rfl⟩
        rw [hy]
        have HYL : Hid (y.length = sumL l) := by unfold Hid; rw [← hy]; exact sumL_flatten l
        have hyl : y.length ≤ 6000 := by have := HYL.out; omega
        have HY := Lib.hid hy
        clear hy
        obtain ⟨k, hk⟩ : ∃ k : Nat, min (max cut 0) (y.length : Int) = (k : Int) := ⟨(min (max cut 0) (y.length : Int)).toNat, by omega⟩
        have hky : k ≤ y.length := by omega
        obtain ⟨R1, hR1⟩ : ∃ R1, wholeL m l an = R1 := ⟨_, rfl⟩
        obtain ⟨R2, hR2⟩ : ∃ R2, wholeL m [y.take k, [], y.drop k] an = R2 := ⟨_, rfl⟩
        have hpl := pieces_plain m l k an (by rw [HY.out]; omega)
        rw [HY.out, hR1, hR2] at hpl
        unfold seen at hpl
        simp only [Prod.mk.injEq] at hpl
        obtain ⟨p1, p2, p3⟩ := hpl
        have HR1 := Lib.hid hR1
        have HR2 := Lib.hid hR2
        have HP1 := Lib.hid p1
        have HP2 := Lib.hid p2
        have HP3 := Lib.hid p3
        clear p1 p2 p3 hR1 hR2
        go_wp2_with fail
        refine (whole_calls wr G1 m _ _ l an HL1.out HA1.out (by omega) (by omega) han).mono ?_
        rw [HR1.out]
        rintro e w3 ⟨vm1, rfl, hin1⟩
        have HI1 := Lib.hid hin1
        have G3 := hin1.glob G1 (fun _ h => h.elim)
        have HA3 := Lib.hid (hin1.ints (fun _ h => h) HA1.out)
        obtain ⟨ma1, mc1, hvm1⟩ := hin1.slice
        clear hin1
        go_wp2_with fail
        have hk0 : (0 : Int) ≤ (k : Int) := by omega
        have hky' : (k : Int) ≤ (y.length : Int) := by omega
        refine wp_region_heldG (fun _ => True) 16 (by kernel_rfl) ?_
        simp only [size_list, Array.replicate_succ, Array.replicate_zero, List.push_toArray, List.nil_append, List.cons_append, List.size_toArray, List.length_cons, List.length_nil, Nat.reduceAdd]
        refine' wpAnyG_takeT 0 (some 51) (v := _) (by decide) rfl rfl (by kernel_rfl) (by kernel_rfl) (by kernel_rfl) (fun _ _ _ h => h) rfl ?_ (fun _ => trivial) ?_
        rotate_left 1
        · (intro w'; go_simp; first | done | with_reducible rfl)
        simp only [Act.put, List.setIfInBounds_toArray, List.set_cons_zero, List.set_cons_succ]
        refine' wpAnyG_takeT 1 (some 52) (v := _) (by decide) rfl rfl (by kernel_rfl) (by kernel_rfl) (by kernel_rfl) (fun _ _ _ h => h) rfl ?_ (fun _ => trivial) ?_
        rotate_left 1
        · (intro w'; go_simp; first | done | with_reducible rfl)
        simp only [Act.put, List.setIfInBounds_toArray, List.set_cons_zero, List.set_cons_succ]
        refine' wpAnyG_takeT 2 (some 53) (v := _) (by decide) rfl rfl (by kernel_rfl) (by kernel_rfl) (by kernel_rfl) (fun _ _ _ h => h) rfl ?_ (fun _ => trivial) ?_
        rotate_left 1
        · (intro w'; go_simp; first | done | with_reducible rfl)
        simp only [Act.put, List.setIfInBounds_toArray, List.set_cons_zero, List.set_cons_succ]
        refine' wpAnyG_takeT 3 (some 54) (v := _) (by decide) rfl rfl (by kernel_rfl) (by kernel_rfl) (by kernel_rfl) (fun _ _ _ h => h) rfl ?_ (fun _ => trivial) ?_
        rotate_left 1
        · (intro w'; go_simp; first | done | with_reducible rfl)
        simp only [Act.put, List.setIfInBounds_toArray, List.set_cons_zero, List.set_cons_succ]
        refine' wpAnyG_takeT 4 (some 55) (v := _) (by decide) rfl rfl (by kernel_rfl) (by kernel_rfl) (by kernel_rfl) (fun _ _ _ h => h) rfl ?_ (fun _ => trivial) ?_
        rotate_left 1
        · (intro w'; go_simp; first | done | with_reducible rfl)
        simp only [Act.put, List.setIfInBounds_toArray, List.set_cons_zero, List.set_cons_succ]
        refine' wpAnyG_takeT 5 (some 56) (v := _) (by decide) rfl rfl (by kernel_rfl) (by kernel_rfl) (by kernel_rfl) (fun _ _ _ h => h) rfl ?_ (fun _ => trivial) ?_
        rotate_left 1
        · (intro w'; go_simp; first | done | with_reducible rfl)
        simp only [Act.put, List.setIfInBounds_toArray, List.set_cons_zero, List.set_cons_succ]
        refine' wpAnyG_takeT 6 (some 57) (v := _) (by decide) rfl rfl (by kernel_rfl) (by kernel_rfl) (by kernel_rfl) (fun _ _ _ h => h) rfl ?_ (fun _ => trivial) ?_
        rotate_left 1
        · (intro w'; go_simp; first | done | with_reducible rfl)
        simp only [Act.put, List.setIfInBounds_toArray, List.set_cons_zero, List.set_cons_succ]
        refine' wpAnyG_takeT 8 (some 59) (v := _) (by decide) rfl rfl (by kernel_rfl) (by kernel_rfl) (by kernel_rfl) (fun _ _ _ h => h) rfl ?_ (fun _ => trivial) ?_
        rotate_left 1
        · (intro w'; go_simp; first | done | with_reducible rfl)
        simp only [Act.put, List.setIfInBounds_toArray, List.set_cons_zero, List.set_cons_succ]
        obtain ⟨w4, hw4⟩ : ∃ w4, w3.drew.alloc (.cells #[S (y.take k), S [], S (y.drop k)] 9) = w4 := ⟨_, rfl⟩
        have hb4 : Below w3.heap.size w3 w4 := by rw [← hw4]; exact ((Below.refl _ _).drew).alloc (Nat.le_refl _) _
        have hn4 : w4.heap[w3.heap.size]? = some (.cells #[S (y.take k), S [], S (y.drop k)] 9 (0, 0)) := by rw [← hw4]; exact heap_alloc_new w3.drew _
        refine wpAnyG_oneD 7 (some 58) (v := .slice (some ⟨w3.heap.size, 0, none⟩) 3 3) (w' := w4) (by kernel_rfl) rfl rfl rfl ?_ (fun _ => trivial) ?_
        · rw [← hw4]
          go_simp
        simp only [Act.put, List.setIfInBounds_toArray, List.set_cons_zero, List.set_cons_succ]
        refine wpAnyG_call 9 (some 60) (f := 23) (args := #[.int .i64 m, .slice (some ⟨w3.heap.size, 0, none⟩) 3 3, .slice a2 an.length c2]) (by kernel_rfl) rfl rfl rfl ?_ ?_
        · go_simp
        have G4 := G3.below' hb4
        have hrd : ReadsAt w4 (.slice (some ⟨w3.heap.size, 0, none⟩) 3 3) [y.take k, [], y.drop k] := by
          refine ⟨_, 3, rfl, fun _ => ⟨w3.heap.size, 0, rfl, fun j x hx => ?_⟩⟩
          simp only [World.cell?, hn4, Nat.zero_add]
          rcases j with _ | _ | _ | j
          · simp at hx; subst hx; rfl
          · simp at hx; subst hx; rfl
          · simp at hx; subst hx; rfl
          · simp at hx
        refine (whole_calls w4 G4 m _ _ [y.take k, [], y.drop k] an hrd (HA3.out.below hb4) (by simp) (by simp [sumL]; omega) han).mono ?_
        rw [HR2.out]
        rintro e w5 ⟨vm2, rfl, hin2⟩
        have HI2 := Lib.hid hin2
        obtain ⟨ma2, mc2, hvm2⟩ := hin2.slice
        clear hin2
        refine ⟨_, rfl, fun _ => trivial, ?_⟩
        simp only [Act.put, List.setIfInBounds_toArray, List.set_cons_zero, List.set_cons_succ]
        refine' wpAnyG_takeT 10 (some 50) (v := _) (by decide) rfl rfl (by kernel_rfl) (by kernel_rfl) (by kernel_rfl) (fun _ _ _ h => h) rfl ?_ (fun _ => trivial) ?_
        rotate_left 1
        · (intro w'; go_simp; first | done | with_reducible rfl)
        simp only [Act.put, List.setIfInBounds_toArray, List.set_cons_zero, List.set_cons_succ]
        refine' wpAnyG_takeT 11 (some 61) (v := _) (by decide) rfl rfl (by kernel_rfl) (by kernel_rfl) (by kernel_rfl) (fun _ _ _ h => h) rfl ?_ (fun _ => trivial) ?_
        rotate_left 1
        · (intro w'; go_simp; first | done | with_reducible rfl)
        simp only [Act.put, List.setIfInBounds_toArray, List.set_cons_zero, List.set_cons_succ]
        refine' wpAnyG_takeT 12 (some 62) (v := _) (by decide) rfl rfl (by kernel_rfl) (by kernel_rfl) (by kernel_rfl) (fun _ _ _ h => h) rfl ?_ (fun _ => trivial) ?_
        rotate_left 1
        · (intro w'; go_simp; first | done | with_reducible rfl)
        simp only [Act.put, List.setIfInBounds_toArray, List.set_cons_zero, List.set_cons_succ]
        refine' wpAnyG_takeT 13 (some 63) (v := _) (by decide) rfl rfl (by kernel_rfl) (by kernel_rfl) (by kernel_rfl) (fun _ _ _ h => h) rfl ?_ (fun _ => trivial) ?_
        rotate_left 1
        · (intro w'; go_simp; first | done | with_reducible rfl)
        simp only [Act.put, List.setIfInBounds_toArray, List.set_cons_zero, List.set_cons_succ]
        refine' wpAnyG_takeT 14 (some 16) (v := _) (by decide) rfl rfl (by kernel_rfl) (by kernel_rfl) (by kernel_rfl) (fun _ _ _ h => h) rfl ?_ (fun _ => trivial) ?_
        rotate_left 1
        · (intro w'; go_simp; first | done | with_reducible rfl)
        simp only [Act.put, List.setIfInBounds_toArray, List.set_cons_zero, List.set_cons_succ]
        refine' wpAnyG_takeT 15 (some 17) (v := _) (by decide) rfl rfl (by kernel_rfl) (by kernel_rfl) (by kernel_rfl) (fun _ _ _ h => h) rfl ?_ (fun _ => trivial) ?_
        rotate_left 1
        · (intro w'; go_simp; first | done | with_reducible rfl)
        simp only [Act.put, List.setIfInBounds_toArray, List.set_cons_zero, List.set_cons_succ]
        refine wpAnyG_oneD 16 (some 18) (v := .bool R2.2.2.over) (w' := w5) (by kernel_rfl) rfl rfl rfl ?_ (fun _ => trivial) ?_
        · go_simp
        simp only [Act.put, List.setIfInBounds_toArray, List.set_cons_zero, List.set_cons_succ]
        refine wpAnyG_done (by kernel_rfl) ?_ _
        simp only [Exit.then]
        rw [HP1.out, HP3.out, HP2.out]
        have HM1 : Hid (∃ M, MailsAt w5 (.slice ma1 R2.2.1.length mc1) R2.2.1 M) := by
          obtain ⟨p, F, M, _, hm, _⟩ := HI1.out
          rw [hvm1, HP2.out] at hm
          exact ⟨M, (hm.below hb4).below HI2.out.toBelow⟩
        have HM2 : Hid (∃ M, MailsAt w5 (.slice ma2 R2.2.1.length mc2) R2.2.1 M) := by
          obtain ⟨p, F, M, _, hm, _⟩ := HI2.out
          rw [hvm2] at hm
          exact ⟨M, hm⟩
        have HB5 : Hid (Below w.heap.size w w5) := below_then'' (below_then'' (below_then'' HB1.out HI1.out.toBelow HB1.out.size) hb4 (Nat.le_trans HB1.out.size HI1.out.size)) HI2.out.toBelow (Nat.le_trans (Nat.le_trans HB1.out.size HI1.out.size) hb4.size)
        obtain ⟨ms, hms⟩ : ∃ ms, R2.2.1 = ms := ⟨_, rfl⟩
        rw [hms] at HM1 HM2 ⊢
        have HML : Hid (ms.length ≤ 9223372036854775807) := by
          obtain ⟨M, vs, _, ho, _⟩ := HM1.out
          rcases ho.2 with ⟨_, q⟩ | ⟨g, cap, cur, _, _, _, q1, q2, _⟩
          · unfold Hid; omega
          · simp only [maxLen] at q2; unfold Hid; omega
        have h85 : 8 ≤ w5.heap.size := by have := HB5.out.size; have := G.sz; omega
        clear hvm1 hvm2 hms HP1 HP2 HP3 HI1 HI2 HR1 HR2 hb4 hn4 hrd hw4
        go_wp2_with fail
        go_loopg [19] ms.length (fun g v19 wx => ∃ j : Nat, j + g = ms.length ∧ v19 = .int .i64 j ∧ Below w5.heap.size w5 wx)
        case atStart => exact ⟨0, by omega, rfl, Below.refl _ _⟩
        case round =>
          obtain ⟨j, hjg, rfl, hbx⟩ := hrel
          have HBX := Lib.hid hbx
          clear hbx
          cases gk with
          | zero =>
            have d : decide ((j : Int) < (ms.length : Int)) = false := by simp; omega
            go_wp2
            go_ret
            exact ⟨rfl, below_then'' HB5.out HBX.out HB5.out.size⟩
          | succ g =>
            have hj : j < ms.length := by omega
            have d : decide ((j : Int) < (ms.length : Int)) = true := by simp; omega
            have hj0 : (0 : Int) ≤ (j : Int) := by omega
            have hjl : (j : Int) < (ms.length : Int) := by omega
            have hml := HML.out
            have hjw : IntKind.i64.wrap ((j : Int) + 1) = ((j + 1 : Nat) : Int) := by rw [IntWalk.i64_in _ ⟨by omega, by omega⟩]; omega
            obtain ⟨mm, hmm⟩ : ∃ mm, ms[j]? = some mm := ⟨ms[j], List.getElem?_eq_getElem hj⟩
            obtain ⟨g1, r1, hv1, R1', rw1⟩ : ∃ g v, ma1 = some ⟨g, 0, none⟩ ∧ w5.rangeAt g (j * 3) [S mm.1, v, S mm.2.2] ∧ RowAt w5 9 v (strsV mm.2.1) := by
              obtain ⟨M, hm⟩ := HM1.out
              obtain ⟨g, c9, e, hg⟩ := hm.get (by intro e; rw [e] at hj; simp at hj)
              cases e
              obtain ⟨v, q1, q2, q3, q4⟩ := hg j mm hmm
              refine ⟨g, v, rfl, fun t u ht => ?_, q4⟩
              rcases t with _ | _ | _ | t
              · simp at ht; subst ht; rw [Nat.mul_comm]; exact q1
              · simp at ht; subst ht; rw [Nat.mul_comm]; exact q2
              · simp at ht; subst ht; rw [Nat.mul_comm]; exact q3
              · simp at ht
            obtain ⟨g2, r2, hv2, R2', rw2⟩ : ∃ g v, ma2 = some ⟨g, 0, none⟩ ∧ w5.rangeAt g (j * 3) [S mm.1, v, S mm.2.2] ∧ RowAt w5 9 v (strsV mm.2.1) := by
              obtain ⟨M, hm⟩ := HM2.out
              obtain ⟨g, c9, e, hg⟩ := hm.get (by intro e; rw [e] at hj; simp at hj)
              cases e
              obtain ⟨v, q1, q2, q3, q4⟩ := hg j mm hmm
              refine ⟨g, v, rfl, fun t u ht => ?_, q4⟩
              rcases t with _ | _ | _ | t
              · simp at ht; subst ht; rw [Nat.mul_comm]; exact q1
              · simp at ht; subst ht; rw [Nat.mul_comm]; exact q2
              · simp at ht; subst ht; rw [Nat.mul_comm]; exact q3
              · simp at ht
            subst hv1
            subst hv2
            have kp : ∀ (q : Addr) (u : Value), w5.cell? q = some u → wr.drew.cell? q = some u := fun q u hq => (World.cell?_of_block (HBX.out.block q.block (World.block_lt_of_cell? _ q hq))).trans hq
            have A0 := kp _ _ (R1' 0 _ rfl)
            have A1 := kp _ _ (R1' 1 _ rfl)
            have A2 := kp _ _ (R1' 2 _ rfl)
            have B0 := kp _ _ (R2' 0 _ rfl)
            have B1 := kp _ _ (R2' 1 _ rfl)
            have B2 := kp _ _ (R2' 2 _ rfl)
            rw [Nat.add_zero] at A0 B0
            have RW1 : Hid (RowAt wr.drew 9 r1 (strsV mm.2.1)) := rw1.heap fun k q => HBX.out.block k (rw1.lt k q).2
            have RW2 : Hid (RowAt wr.drew 9 r2 (strsV mm.2.1)) := rw2.heap fun k q => HBX.out.block k (rw2.lt k q).2
            have h8r : 8 ≤ wr.drew.heap.size := by have := HBX.out.size; show 8 ≤ wr.heap.size; omega
            clear R1' R2' rw1 rw2 hmm kp
            go_wp2_with fail
            go_region_held3 (fun w' => w'.cell? ⟨g1, j * 3, none⟩ = some (S mm.1) ∧ w'.cell? ⟨g1, j * 3 + 1, none⟩ = some r1 ∧ w'.cell? ⟨g1, j * 3 + 2, none⟩ = some (S mm.2.2) ∧ w'.cell? ⟨g2, j * 3, none⟩ = some (S mm.1) ∧ w'.cell? ⟨g2, j * 3 + 1, none⟩ = some r2 ∧ w'.cell? ⟨g2, j * 3 + 2, none⟩ = some (S mm.2.2))
              (first | assumption | exact ⟨A0, A1, A2, B0, B1, B2⟩ | exact ⟨cellB hbS A0, cellB hbS A1, cellB hbS A2, cellB hbS B0, cellB hbS B1, cellB hbS B2⟩)
              (first | (go_at_call 18; refine (same_calls _ h8r mm mm r1 r2 RW1.out RW2.out).mono ?_; rintro e wS ⟨rfl, hbS⟩))
            go_wp2
            go_roundg g
            case measure => omega
            case rel =>
              exact ⟨j + 1, by omega, by simp, below_then'' (HBX.out.drew) hbS HBX.out.size⟩
end Go.Proofs.YtapanjfheddfnaaGreatDoor
