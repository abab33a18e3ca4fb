/- Merged: TellsA, TellsP, TellsD, TellsB, Law3. -/
import Derived.Test.YtapanjfheddfnaaGreatDoorRefC
import Derived.Test.YtapanjfheddfnaaGreatDoorEnv
import Derived.Deep.QuietTactic
import Derived.BigQuiet
import Derived.Test.YtapanjfheddfnaaGreatDoorFeed2
import Derived.Test.YtapanjfheddfnaaGreatDoorInR
import Derived.Test.YtapanjfheddfnaaGreatDoorSmallW
import Derived.Test.YtapanjfheddfnaaGreatDoorSame
import Derived.Deep.RegionHeld3
section
/- The reference's Answer and Mail. -/
namespace Go.Proofs.YtapanjfheddfnaaGreatDoor
open Go.RowKit Go.Shelf
attribute [local go_sem high] ext_to ext_from
attribute [local go_sem] ext_list app_list size_list

theorem done_after {w : World} {b : Nat} {s : Sess} {p : RP} {F : Nat → Prop} (h : RefAt w b s p F) (hw : s.waits = true) : RefAt (w.setCell ⟨b, 10, none⟩ (.bool false)) b { s with waits := false, body := none } p F :=
  h.put 10 _ (by unfold rcells; rw [hw]; simp) rfl rfl rfl h.kept h.rcp (fun y hy => by cases hy) h.fk h.ft
set_option maxHeartbeats 4000000 in
set_option maxRecDepth 100000 in
theorem answerR_calls (w : World) (h8 : 8 ≤ w.heap.size) (b : Nat) (s : Sess) (p : RP) (F : Nat → Prop) (h : RefAt w b s p F) (x : Int) :
    Calls Tryz.prog 22 #[.pointer (some ⟨b, 0, none⟩), .int .i64 x] w fun e w' => e = .returned (S (answerS s x).1) ∧ RStep b F p.left w w' (answerS s x).2 := by
  have c10 : w.cell? ⟨b, 10, none⟩ = some (.bool s.waits) := h.cell 10
  have f10 := h.frozen 10
  have H := Lib.hid h
  rcases Bool.eq_false_or_eq_true s.waits with hw | hw
  · have HE : Hid (answerS s x = (replyL (answerC x), doneS s)) := by unfold Hid answerS; rw [hw]; rfl
    rw [HE.out]
    rw [hw] at c10
    have HG := Lib.hid (done_after h hw)
    have HD : Hid (RefAt _ b (doneS s) _ F) := anew_done (done_after h hw)
    have HK := Lib.hid ((h.own1 10 (.bool false)).trans' (anew_kept (done_after h hw)) fun k q => .inl q)
    clear HE h hw
    go_enter Tryz.func22, Tryz.ntmps22
    go_wp2_with fail
    refine (anew_calls _ b _ p F HG.out).mono ?_
    rintro e w7 ⟨rfl, rfl⟩
    obtain ⟨w8, hw8⟩ : ∃ w8, (((w.setCell ⟨b, 10, none⟩ (.bool false)).setCell ⟨b, 4, none⟩ (.bool false)).setCell ⟨b, 5, none⟩ (S [])).setCell ⟨b, 6, none⟩ (.slice none 0 0) = w8 := ⟨_, rfl⟩
    rw [hw8] at HD HK ⊢
    clear hw8
    by_cases q0 : x = 0
    · have d0 : (x == 0) = true := by simpa using q0
      have HC : Hid (answerC x = 250) := by unfold Hid; rw [q0]; rfl
      clear q0
      go_wp2_with fail
      refine (replyR_250 _).mono ?_
      rintro e w9 ⟨rfl, hb9⟩
      go_wp2
      go_ret
      rw [HC.out]
      exact ⟨rfl, RStep.of H.out HK.out HD.out hb9 h8 rfl⟩
    · have d0 : (x == 0) = false := by simpa using q0
      have N0 := Lib.hid q0
      clear q0
      by_cases q1 : x = 16
      · have d1 : (x == 16) = true := by simpa using q1
        have HC : Hid (answerC x = 552) := by unfold Hid; rw [q1]; rfl
        clear q1
        go_wp2_with fail
        refine (replyR_552 _).mono ?_
        rintro e w9 ⟨rfl, hb9⟩
        go_wp2
        go_ret
        rw [HC.out]
        exact ⟨rfl, RStep.of H.out HK.out HD.out hb9 h8 rfl⟩
      · have d1 : (x == 16) = false := by simpa using q1
        have N1 := Lib.hid q1
        clear q1
        by_cases q2 : x = 3
        · have d2 : (x == 3) = true := by simpa using q2
          have HC : Hid (answerC x = 452) := by unfold Hid; rw [q2]; rfl
          clear q2
          go_wp2_with fail
          refine (replyR_452 _).mono ?_
          rintro e w9 ⟨rfl, hb9⟩
          go_wp2
          go_ret
          rw [HC.out]
          exact ⟨rfl, RStep.of H.out HK.out HD.out hb9 h8 rfl⟩
        · have d2 : (x == 3) = false := by simpa using q2
          have N2 := Lib.hid q2
          clear q2
          by_cases q3 : x = 13
          · have d3 : (x == 13) = true := by simpa using q3
            have HC : Hid (answerC x = 451) := by unfold Hid; rw [q3]; rfl
            clear q3
            go_wp2_with fail
            refine (replyR_451 _).mono ?_
            rintro e w9 ⟨rfl, hb9⟩
            go_wp2
            go_ret
            rw [HC.out]
            exact ⟨rfl, RStep.of H.out HK.out HD.out hb9 h8 rfl⟩
          · have d3 : (x == 13) = false := by simpa using q3
            have N3 := Lib.hid q3
            clear q3
            by_cases q4 : x = 14
            · have d4 : (x == 14) = true := by simpa using q4
              have HC : Hid (answerC x = 451) := by unfold Hid; rw [q4]; rfl
              clear q4
              go_wp2_with fail
              refine (replyR_451 _).mono ?_
              rintro e w9 ⟨rfl, hb9⟩
              go_wp2
              go_ret
              rw [HC.out]
              exact ⟨rfl, RStep.of H.out HK.out HD.out hb9 h8 rfl⟩
            · have d4 : (x == 14) = false := by simpa using q4
              have N4 := Lib.hid q4
              clear q4
              by_cases q5 : x = 22
              · have d5 : (x == 22) = true := by simpa using q5
                have HC : Hid (answerC x = 451) := by unfold Hid; rw [q5]; rfl
                clear q5
                go_wp2_with fail
                refine (replyR_451 _).mono ?_
                rintro e w9 ⟨rfl, hb9⟩
                go_wp2
                go_ret
                rw [HC.out]
                exact ⟨rfl, RStep.of H.out HK.out HD.out hb9 h8 rfl⟩
              · have d5 : (x == 22) = false := by simpa using q5
                have N5 := Lib.hid q5
                clear q5
                have HC : Hid (answerC x = 554) := by unfold Hid answerC; rw [if_neg N0.out, if_neg N1.out, if_neg N2.out, if_neg (by have := N3.out; have := N4.out; have := N5.out; omega)]
                go_wp2_with fail
                refine (replyR_554 _).mono ?_
                rintro e w9 ⟨rfl, hb9⟩
                go_wp2
                go_ret
                rw [HC.out]
                exact ⟨rfl, RStep.of H.out HK.out HD.out hb9 h8 rfl⟩
  · have HE : Hid (answerS s x = ([], s)) := by unfold Hid answerS; rw [hw]; rfl
    rw [HE.out]
    rw [hw] at c10
    clear HE h hw
    go_enter Tryz.func22, Tryz.ntmps22
    go_wp2
    go_ret
    exact ⟨rfl, RStep.same H.out (Below.refl _ _) h8⟩

set_option maxHeartbeats 4000000 in
set_option maxRecDepth 100000 in
theorem envR_calls (w : World) (h8 : 8 ≤ w.heap.size) (b : Nat) (s : Sess) (p : RP) (F : Nat → Prop) (h : RefAt w b s p F) (hw : s.waits = false) :
    Calls Tryz.prog 20 #[.pointer (some ⟨b, 0, none⟩)] w fun e w' => e = .returned (.agg #[S [], .slice none 0 0, S []]) ∧ Below w.heap.size w w' := by
  have c8 : w.cell? ⟨b, 10, none⟩ = some (.bool false) := by rw [← hw]; exact h.cell 10
  have hltb : b < w.heap.size := (h.blk b h.fb).2
  go_enter Tryz.func20, Tryz.ntmps20
  go_wp2
  have hn := heap_alloc_new w (.cells #[.string ⟨#[]⟩, .slice none 0 0, .string ⟨#[]⟩] 35)
  refine bodyPost_ret (results_cell_row rfl _ _ w.heap.size 35 _ (0, 0) _ rfl hn Tryz.underlying35 rfl (by rfl)) rfl ?_
  exact ⟨rfl, (Below.refl _ _).alloc (Nat.le_refl _) _⟩
set_option maxHeartbeats 4000000 in
set_option maxRecDepth 100000 in
theorem envR_waits (w : World) (h8 : 8 ≤ w.heap.size) (b : Nat) (s : Sess) (p : RP) (F : Nat → Prop) (h : RefAt w b s p F) (hw : s.waits = true) (a y : Bs) (hs : s.sender = some a) (hy : s.body = some y) (hr : s.rcp.length ≤ 1000000) :
    Calls Tryz.prog 20 #[.pointer (some ⟨b, 0, none⟩)] w fun e w' => (∃ v', e = .returned (.agg #[S a, v', S y]) ∧ RowAt w' 9 v' (strsV s.rcp) ∧ (∀ k, v'.ownBlock = some k → w.heap.size ≤ k)) ∧ Below w.heap.size w w' := by
  have hltb : b < w.heap.size := (h.blk b h.fb).2
  have hbt := (h.body y hy).1
  obtain ⟨w1, hw1⟩ : ∃ w1, w.alloc (.cells #[.string ⟨#[]⟩, .slice none 0 0, .string ⟨#[]⟩] 35) = w1 := ⟨_, rfl⟩
  have hb1 : Below w.heap.size w w1 := by rw [← hw1]; exact (Below.refl _ _).alloc (Nat.le_refl _) _
  have z1 : w1.heap.size = w.heap.size + 1 := by rw [← hw1]; simp
  have hn : w1.heap[w.heap.size]? = some (.cells #[.string ⟨#[]⟩, .slice none 0 0, .string ⟨#[]⟩] 35 (0, 0)) := by rw [← hw1]; exact heap_alloc_new _ _
  have h1 := h.below hb1
  have hd1 : Below w1.heap.size w1 w1.drew := (Below.refl _ _).drew
  have h1d := h1.below hd1
  have c8 : w1.cell? ⟨b, 10, none⟩ = some (.bool true) := by rw [← hw]; exact h1.cell 10
  obtain ⟨ta, tc, htv⟩ := h.rcp.slice
  have c5 : w1.drew.cell? ⟨b, 5, none⟩ = some (S a) := by have := h1d.cell 5; rw [this]; unfold rcells; rw [hs]; rfl
  have c6 : w1.drew.cell? ⟨b, 6, none⟩ = some p.tv := h1d.cell 6
  have c9 : w1.drew.cell? ⟨b, 9, none⟩ = some (S p.bt) := h1d.cell 9
  rw [hbt] at c9
  rw [htv, strsV_len] at c6
  go_enter Tryz.func20, Tryz.ntmps20
  go_wp2_with fail
  refine wp_region_heldG (fun w' => w'.cell? ⟨b, 5, none⟩ = some (S a) ∧ w'.cell? ⟨b, 6, none⟩ = some (.slice ta s.rcp.length tc) ∧ w'.cell? ⟨b, 9, none⟩ = some (S y)) 15 (by kernel_rfl) ?_
  simp only [size_list, Array.replicate_succ, Array.replicate_zero, List.push_toArray, List.nil_append, List.cons_append, List.size_toArray, List.length_cons, List.length_nil, Nat.reduceAdd]
  refine' wpAnyG_takeD 0 (some 9) (v := _) (by decide) (by kernel_rfl) (by kernel_rfl) rfl rfl (by kernel_rfl) (by kernel_rfl) (by kernel_rfl) (fun _ _ _ h => h) rfl ?_ ⟨c5, c6, c9⟩ ?_
  rotate_left 1
  · (intro w' hSw; (try dsimp only at hSw); go_simp; first | done | with_reducible rfl)
  simp only [Act.put, List.setIfInBounds_toArray, List.set_cons_zero, List.set_cons_succ]
  refine' wpAnyG_takeD 1 (some 10) (v := _) (by decide) (by kernel_rfl) (by kernel_rfl) rfl rfl (by kernel_rfl) (by kernel_rfl) (by kernel_rfl) (fun _ _ _ h => h) rfl ?_ ⟨c5, c6, c9⟩ ?_
  rotate_left 1
  · (intro w' hSw; (try dsimp only at hSw); go_simp; first | done | with_reducible rfl)
  simp only [Act.put, List.setIfInBounds_toArray, List.set_cons_zero, List.set_cons_succ]
  refine' wpAnyG_takeD 2 (some 11) (v := _) (by decide) (by kernel_rfl) (by kernel_rfl) rfl rfl (by kernel_rfl) (by kernel_rfl) (by kernel_rfl) (fun _ _ _ h => h) rfl ?_ ⟨c5, c6, c9⟩ ?_
  rotate_left 1
  · (intro w' hSw; (try dsimp only at hSw); go_simp; first | done | with_reducible rfl)
  simp only [Act.put, List.setIfInBounds_toArray, List.set_cons_zero, List.set_cons_succ]
  refine' wpAnyG_takeD 3 (some 12) (v := _) (by decide) (by kernel_rfl) (by kernel_rfl) rfl rfl (by kernel_rfl) (by kernel_rfl) (by kernel_rfl) (fun _ _ _ h => h) rfl ?_ ⟨c5, c6, c9⟩ ?_
  rotate_left 1
  · (intro w' hSw; (try dsimp only at hSw); go_simp; first | done | with_reducible rfl)
  simp only [Act.put, List.setIfInBounds_toArray, List.set_cons_zero, List.set_cons_succ]
  refine' wpAnyG_takeD 5 (some 14) (v := _) (by decide) (by kernel_rfl) (by kernel_rfl) rfl rfl (by kernel_rfl) (by kernel_rfl) (by kernel_rfl) (fun _ _ _ h => h) rfl ?_ ⟨c5, c6, c9⟩ ?_
  rotate_left 1
  · (intro w' hSw; (try dsimp only at hSw); go_simp; first | done | with_reducible rfl)
  simp only [Act.put, List.setIfInBounds_toArray, List.set_cons_zero, List.set_cons_succ]
  refine' wpAnyG_takeD 6 (some 15) (v := _) (by decide) (by kernel_rfl) (by kernel_rfl) rfl rfl (by kernel_rfl) (by kernel_rfl) (by kernel_rfl) (fun _ _ _ h => h) rfl ?_ ⟨c5, c6, c9⟩ ?_
  rotate_left 1
  · (intro w' hSw; (try dsimp only at hSw); go_simp; first | done | with_reducible rfl)
  simp only [Act.put, List.setIfInBounds_toArray, List.set_cons_zero, List.set_cons_succ]
  refine' wpAnyG_takeD 7 (some 16) (v := _) (by decide) (by kernel_rfl) (by kernel_rfl) rfl rfl (by kernel_rfl) (by kernel_rfl) (by kernel_rfl) (fun _ _ _ h => h) rfl ?_ ⟨c5, c6, c9⟩ ?_
  rotate_left 1
  · (intro w' hSw; (try dsimp only at hSw); go_simp; first | done | with_reducible rfl)
  simp only [Act.put, List.setIfInBounds_toArray, List.set_cons_zero, List.set_cons_succ]
  refine' wpAnyG_takeD 8 (some 17) (v := _) (by decide) (by kernel_rfl) (by kernel_rfl) rfl rfl (by kernel_rfl) (by kernel_rfl) (by kernel_rfl) (fun _ _ _ h => h) rfl ?_ ⟨c5, c6, c9⟩ ?_
  rotate_left 1
  · (intro w' hSw; (try dsimp only at hSw); go_simp; first | done | with_reducible rfl)
  simp only [Act.put, List.setIfInBounds_toArray, List.set_cons_zero, List.set_cons_succ]
  refine' wpAnyG_takeD 10 (some 19) (v := _) (by decide) (by kernel_rfl) (by kernel_rfl) rfl rfl (by kernel_rfl) (by kernel_rfl) (by kernel_rfl) (fun _ _ _ h => h) rfl ?_ ⟨c5, c6, c9⟩ ?_
  rotate_left 1
  · (intro w' hSw; (try dsimp only at hSw); go_simp; first | done | with_reducible rfl)
  simp only [Act.put, List.setIfInBounds_toArray, List.set_cons_zero, List.set_cons_succ]
  refine' wpAnyG_takeD 11 (some 20) (v := _) (by decide) (by kernel_rfl) (by kernel_rfl) rfl rfl (by kernel_rfl) (by kernel_rfl) (by kernel_rfl) (fun _ _ _ h => h) rfl ?_ ⟨c5, c6, c9⟩ ?_
  rotate_left 1
  · (intro w' hSw; (try dsimp only at hSw); go_simp; first | done | with_reducible rfl)
  simp only [Act.put, List.setIfInBounds_toArray, List.set_cons_zero, List.set_cons_succ]
  refine' wpAnyG_takeD 12 (some 21) (v := _) (by decide) (by kernel_rfl) (by kernel_rfl) rfl rfl (by kernel_rfl) (by kernel_rfl) (by kernel_rfl) (fun _ _ _ h => h) rfl ?_ ⟨c5, c6, c9⟩ ?_
  rotate_left 1
  · (intro w' hSw; (try dsimp only at hSw); go_simp; first | done | with_reducible rfl)
  simp only [Act.put, List.setIfInBounds_toArray, List.set_cons_zero, List.set_cons_succ]
  refine' wpAnyG_takeD 13 (some 22) (v := _) (by decide) (by kernel_rfl) (by kernel_rfl) rfl rfl (by kernel_rfl) (by kernel_rfl) (by kernel_rfl) (fun _ _ _ h => h) rfl ?_ ⟨c5, c6, c9⟩ ?_
  rotate_left 1
  · (intro w' hSw; (try dsimp only at hSw); go_simp; first | done | with_reducible rfl)
  simp only [Act.put, List.setIfInBounds_toArray, List.set_cons_zero, List.set_cons_succ]
  have zd : w1.drew.heap.size = w1.heap.size := rfl
  have hba : Below w1.drew.heap.size w1.drew (w1.drew.alloc (Obj.cells #[] 9)) := (Below.refl _ _).alloc (Nat.le_refl _) _
  have kp1 : ∀ (q : Addr) (u : Value), w1.drew.cell? q = some u → (w1.drew.alloc (Obj.cells #[] 9)).cell? q = some u := fun q u hq => (World.cell?_of_block (hba.block q.block (World.block_lt_of_cell? _ q hq))).trans hq
  obtain ⟨a7, c7, w7, happ, hr7, hv7, hb7⟩ := clone_new w1.drew (by omega) p.tv s.rcp h1d.rcp hr
  rw [htv, strsV_len] at happ
  have kp7 : ∀ (q : Addr) (u : Value), w1.drew.cell? q = some u → w7.cell? q = some u := fun q u hq => (World.cell?_of_block (hb7.block q.block (World.block_lt_of_cell? _ q hq))).trans hq
  refine wpAnyG_oneD 4 (some 13) (v := .slice (some ⟨w1.drew.heap.size, 0, none⟩) 0 0) (w' := w1.drew.alloc (Obj.cells #[] 9)) (by kernel_rfl) rfl rfl rfl ?_ (fun _ => ⟨kp1 _ _ c5, kp1 _ _ c6, kp1 _ _ c9⟩) ?_
  · go_simp
  simp only [Act.put, List.setIfInBounds_toArray, List.set_cons_zero, List.set_cons_succ]
  refine wpAnyG_oneD 9 (some 18) (v := .slice a7 s.rcp.length c7) (w' := w7) (by kernel_rfl) rfl rfl rfl ?_ (fun _ => ⟨kp7 _ _ c5, kp7 _ _ c6, kp7 _ _ c9⟩) ?_
  · exact exec_append _ (.tmp 13) (.tmp 17) 22 22 rfl _ _ rfl rfl _ _ happ
  simp only [Act.put, List.setIfInBounds_toArray, List.set_cons_zero, List.set_cons_succ]
  refine wpAnyG_oneD 14 (some 23) (v := .agg #[S a, .slice a7 s.rcp.length c7, S y]) (w' := w7) (by kernel_rfl) rfl rfl rfl ?_ (fun _ => ⟨kp7 _ _ c5, kp7 _ _ c6, kp7 _ _ c9⟩) ?_
  · go_simp
  simp only [Act.put, List.setIfInBounds_toArray, List.set_cons_zero, List.set_cons_succ]
  have hn7 : w7.heap[w.heap.size]? = some (.cells #[.string ⟨#[]⟩, .slice none 0 0, .string ⟨#[]⟩] 35 (0, 0)) := (hb7.block _ (by omega)).trans hn
  refine wpAnyG_one_skip (i := 15) (w' := w7.setRow w.heap.size #[S a, .slice a7 s.rcp.length c7, S y]) (by kernel_rfl) rfl rfl ?_ ?_ ?_
  · exact exec_store_row _ 35 (.tmp 2) (.tmp 23) rfl w.heap.size _ rfl rfl 35 _ hn7 (by rfl) rfl (by simp [Value.oneCell'])
  · exact fun h => (by cases h)
  refine wpAnyG_done (by kernel_rfl) ?_ _
  have hn4 := setRow_heap w7 w.heap.size _ #[S a, .slice a7 s.rcp.length c7, S y] 35 _ hn7
  have hk4 : Kept (fun k => k = w.heap.size) w7 (w7.setRow w.heap.size #[S a, .slice a7 s.rcp.length c7, S y]) := ⟨rfl, rfl, rfl, by simp, fun k _ hk => setRow_other w7 _ k _ hk⟩
  have hv4 : RowAt (w7.setRow w.heap.size #[S a, .slice a7 s.rcp.length c7, S y]) 9 (.slice a7 s.rcp.length c7) (strsV s.rcp) := hr7.kept hk4 fun k q => by have := hv7 k q; omega
  have hkk : Kept NoBlk w (w7.setRow w.heap.size #[S a, .slice a7 s.rcp.length c7, S y]) := (Kept.of_below (below_then' hb1 (below_then' hd1 hb7))).trans' hk4 fun k q => .inr (by omega)
  have HH := Lib.hid hv4
  have HW := Lib.hid (hkk.below fun i q => q.elim)
  clear hv4 hk4 hkk
  simp only [Exit.then]
  go_wp2
  refine bodyPost_ret (results_cell_row rfl _ _ w.heap.size 35 _ (0, 0) _ rfl hn4 Tryz.underlying35 rfl (by rfl)) rfl ?_
  exact ⟨⟨_, rfl, HH.out, fun k q => by have := hv7 k q; omega⟩, HW.out⟩
end Go.Proofs.YtapanjfheddfnaaGreatDoor
end
section
/- The reference's feed. -/
namespace Go.Proofs.YtapanjfheddfnaaGreatDoor
open Go.RowKit Go.Shelf
attribute [local go_sem high] ext_to ext_from
attribute [local go_sem] ext_list app_list size_list

theorem lines_some : ∀ (n : Nat) (s : Bs), s.length ≤ n → ∀ x ∈ linesL s, x ≠ []
  | 0, s, h => by
    have : s = [] := List.eq_nil_of_length_eq_zero (by omega)
    subst this
    intro x hx; cases hx
  | n + 1, s, h => by
    intro x hx
    by_cases h0 : s = []
    · subst h0; cases hx
    · cases hc : (Lib.cut s [10]).2.2
      · rw [linesL_last s h0 hc] at hx
        rw [List.mem_singleton.1 hx]; exact h0
      · rw [linesL_ends s h0 hc] at hx
        have hlt := cut_rest_lt s hc
        rcases List.mem_cons.1 hx with rfl | hx
        · simp
        · exact lines_some n _ (by omega) x hx
theorem lines_count (s : Bs) : (linesL s).length ≤ s.length ∧ ∀ x ∈ linesL s, x.length ≤ s.length := by
  have h1 := lines_some s.length s (Nat.le_refl _)
  have h2 := (lines_flat s).1
  have key : ∀ l : List Bs, (∀ x ∈ l, x ≠ []) → l.length ≤ l.flatten.length ∧ ∀ x ∈ l, x.length ≤ l.flatten.length := by
    intro l
    induction l with
    | nil => intro _; exact ⟨by simp, fun x hx => by cases hx⟩
    | cons y l ih =>
      intro h
      obtain ⟨a, b⟩ := ih (fun x hx => h x (by simp [hx]))
      have hy := List.length_pos_iff.2 (h y (by simp))
      simp only [List.flatten_cons, List.length_append, List.length_cons]
      refine ⟨by omega, fun x hx => ?_⟩
      rcases List.mem_cons.1 hx with rfl | hx
      · omega
      · have := b x hx; omega
  have := key _ h1
  rw [h2] at this
  exact this

set_option maxHeartbeats 8000000 in
set_option maxRecDepth 100000 in
theorem pushFR_calls (w : World) (h8 : 8 ≤ w.heap.size) (fb : Nat) (hfb : 8 ≤ fb) (L chunk : Bs) (hL : L.length + chunk.length ≤ 1000000) (hf : w.heap[fb]? = some (.cells #[.int .i64 1000, S L] 84 (0, 0))) :
    Calls Tryz.prog 40 #[.pointer (some ⟨fb, 0, none⟩), S chunk] w fun e w' => ∃ v, e = .returned v ∧ RowAt w' 9 v (strsV (pushR L chunk).2) ∧ (∀ k, v.ownBlock = some k → w.heap.size ≤ k) ∧
      w'.heap[fb]? = some (.cells #[.int .i64 1000, S (pushR L chunk).1] 84 (0, 0)) ∧ Kept (AtB fb) w w' := by
  have hfl : fb < w.heap.size := (Array.getElem?_eq_some_iff.1 hf).1
  have c1 : w.cell? ⟨fb, 1, none⟩ = some (S L) := by simp [World.cell?, hf]
  have hPR : pushR L chunk = (linesL (L ++ chunk)).foldl foldR ([], []) := rfl
  have hall : (L ++ chunk).length ≤ 1000000 := by rw [List.length_append]; exact hL
  obtain ⟨hcnt, hlen⟩ := lines_count (L ++ chunk)
  have hsome := lines_some _ (L ++ chunk) (Nat.le_refl _)
  obtain ⟨ls, hls⟩ : ∃ ls, linesL (L ++ chunk) = ls := ⟨_, rfl⟩
  rw [hls] at hcnt hlen hsome hPR
  have HLS := Lib.hid hls
  have HPR := Lib.hid hPR
  have HSOME := Lib.hid hsome
  have HLEN := Lib.hid hlen
  have hcl : ls.length ≤ 1000000 := by omega
  clear hls hPR hsome hlen hcnt
  have HF := Lib.hid hf
  clear hf
  go_enter Tryz.func40, Tryz.ntmps40
  go_wp2_with fail
  refine (splitR_calls (L ++ chunk) (by omega) _ h8).mono ?_
  rw [HLS.out]
  rintro e w1 ⟨v0, rfl, hr0, hv0, hb1⟩
  have z1 := hb1.size
  have hf1 : w1.heap[fb]? = some (.cells #[.int .i64 1000, S L] 84 (0, 0)) := (hb1.block fb hfl).trans HF.out
  have c11 : w1.cell? ⟨fb, 1, none⟩ = some (S L) := by simp [World.cell?, hf1]
  have f11 : w1.frozen? ⟨fb, 1, none⟩ = false := by simp [World.frozen?, hf1]
  obtain ⟨a0, cp0, hva⟩ := hr0.slice
  rw [strsV_len] at hva
  subst hva
  have HG0 : Hid (∀ k, (Value.slice a0 ls.length cp0).ownBlock = some k → k < w1.heap.size) := fun k q => (hr0.lt k q).2
  have HR0 := Lib.hid hr0
  have HV0 := Lib.hid hv0
  have HF1 := Lib.hid hf1
  have HB1 := Lib.hid hb1
  clear hr0 hv0 hf1 hb1
  go_wp2_with fail
  have nrow : ∀ (W : World) (C : Array Value) (v : Value) (xs : List Value), W.heap[fb]? = some (.cells C 84 (0, 0)) → RowAt W 9 v xs → ∀ k, v.ownBlock = some k → k ≠ fb := by
    rintro W C v xs hs h k hk rfl
    obtain ⟨cur, hc⟩ := h.kind k hk
    rw [hs] at hc
    simp at hc
  have HNR := Lib.hid nrow
  clear nrow
  go_loopg [6, 7] ls.length (fun g v6 v7 wx => ∃ (i : Nat) (st : Bs × List Bs), i + g = ls.length ∧ v7 = .int .i64 i ∧ (ls.take i).foldl foldR ([], []) = st ∧ st.2.length ≤ i ∧ RowAt wx 9 v6 (strsV st.2) ∧ (∀ k, v6.ownBlock = some k → w1.heap.size ≤ k) ∧
    wx.heap[fb]? = some (.cells #[.int .i64 1000, S st.1] 84 (0, 0)) ∧ Kept (AtB fb) w wx ∧ RowAt wx 9 (.slice a0 ls.length cp0) (strsV ls) ∧ w1.heap.size ≤ wx.heap.size)
  case atStart =>
    have hk1 : Kept (AtB fb) w (w1.setCell ⟨fb, 1, none⟩ (S [])) := (Kept.of_below HB1.out).setCell (p := ⟨fb, 1, none⟩) (.inl (show AtB fb fb from rfl)) _
    have hs1 : (w1.setCell ⟨fb, 1, none⟩ (S [])).heap[fb]? = some (.cells #[.int .i64 1000, S []] 84 (0, 0)) := heap_set HF1.out _
    refine ⟨0, ([], []), by omega, rfl, by simp, by simp, RowAt.nil _ _, fun k q => (by cases q), hs1, hk1, ?_, by simp [World.setCell]⟩
    exact HR0.out.heap fun k q => Below.heap_setCell _ _ _ _ (HNR.out _ _ _ _ HF1.out HR0.out k q)
  case round =>
    obtain ⟨i, st, hig, rfl, hst, hsti, hr6, hv6, hfw, hkw, hr0, hzw⟩ := hrel
    have HST := Lib.hid hst
    have HR6 := Lib.hid hr6
    have HV6 := Lib.hid hv6
    have HFW := Lib.hid hfw
    have HKW := Lib.hid hkw
    have HR0W := Lib.hid hr0
    clear hst hr6 hv6 hfw hkw HR0 c11 f11
    cases gk with
    | zero =>
      have hil : i = ls.length := by omega
      have d : decide ((i : Int) < (ls.length : Int)) = false := by simp; omega
      have hE : Hid (pushR L chunk = st) := by unfold Hid; rw [HPR.out, ← HST.out, hil, List.take_length]
      clear hil hr0
      go_wp2
      go_ret
      rw [hE.out]
      exact ⟨_, rfl, HR6.out, fun k q => by have := HV6.out k q; omega, HFW.out, HKW.out⟩
    | succ g =>
      have hil : i < ls.length := by omega
      have d : decide ((i : Int) < (ls.length : Int)) = true := by simp; omega
      have hi0 : (0 : Int) ≤ (i : Int) := by omega
      have hil' : (i : Int) < (ls.length : Int) := by omega
      obtain ⟨x, hx⟩ : ∃ x, ls[i]? = some x := ⟨ls[i], List.getElem?_eq_getElem hil⟩
      have hxm := List.mem_of_getElem? hx
      have hxne := HSOME.out x hxm
      have hxl := HLEN.out x hxm
      obtain ⟨gb, off, hga, hca⟩ : ∃ g off, a0 = some ⟨g, off, none⟩ ∧ wr.cell? ⟨g, off + i, none⟩ = some (S x) := by
        obtain ⟨g1, off, cap, e, hc⟩ := hr0.cells (by intro e; have e9 := congrArg List.length e; rw [strsV_len, List.length_nil] at e9; omega)
        rw [strsV_len] at e
        cases e
        exact ⟨g1, off, rfl, hc i _ (by simp [strsV, hx])⟩
      subst hga
      obtain ⟨n, hn⟩ : ∃ n, x.length = n + 1 := ⟨x.length - 1, by have := List.length_pos_iff.2 hxne; omega⟩
      have hlt : (n : Int) < (n : Int) + 1 := by omega
      have hn0 : (0 : Int) ≤ (n : Int) := by omega
      have hnb : n + 1 ≤ 1000000 := by omega
      have hsz : n < (⟨x.toArray⟩ : ByteArray).size := by show n < x.length; omega
      have htk : ls.take (i + 1) = ls.take i ++ [x] := by rw [List.take_add_one, hx]; rfl
      have hjw : IntKind.i64.wrap ((i : Int) + 1) = ((i + 1 : Nat) : Int) := by rw [IntWalk.i64_in _ ⟨by omega, by omega⟩]; omega
      have hfd : foldR st x = (if Lib.hasSuffix x [10] then (st.1, st.2 ++ [x.take 1000]) else (x, st.2)) := rfl
      have hS : wr.drew.cell? ⟨gb, off + i, none⟩ = some (S x) := hca
      have HX := Lib.hid hx
      have hnw : IntKind.i64.wrap ((n : Int) + 1 - 1) = (n : Int) := by rw [IntWalk.i64_in _ ⟨by omega, by omega⟩]; omega
      have hnw2 : IntKind.i64.wrap (n : Int) = (n : Int) := IntWalk.i64_in _ ⟨by omega, by omega⟩
      clear hx hxm hxne hr0
      cases hten : Lib.hasSuffix x [10]
      · have dc : ((((⟨x.toArray⟩ : ByteArray)[n]'hsz).toNat : Int) == 10) = false := by rw [← last_ten x n hn hsz]; exact hten
        have HFD : Hid ((ls.take (i + 1)).foldl foldR ([], []) = (x, st.2)) := by unfold Hid; rw [htk, List.foldl_append, HST.out]; show foldR st x = _; rw [hfd, hten]; rfl
        clear hten htk hfd
        have c1w : wr.cell? ⟨fb, 1, none⟩ = some (S st.1) := by have := HFW.out; simp [World.cell?, this]
        have f1w : wr.frozen? ⟨fb, 1, none⟩ = false := by have := HFW.out; simp [World.frozen?, this]
        have H5 : Hid (RowAt (wr.setCell ⟨fb, 1, none⟩ (S x)) 9 u6 (strsV st.2) ∧ (wr.setCell ⟨fb, 1, none⟩ (S x)).heap[fb]? = some (.cells #[.int .i64 1000, S x] 84 (0, 0)) ∧ Kept (AtB fb) w (wr.setCell ⟨fb, 1, none⟩ (S x)) ∧
            RowAt (wr.setCell ⟨fb, 1, none⟩ (S x)) 9 (.slice (some ⟨gb, off, none⟩) ls.length cp0) (strsV ls) ∧ w1.heap.size ≤ (wr.setCell ⟨fb, 1, none⟩ (S x)).heap.size) :=
          ⟨HR6.out.heap fun k q => Below.heap_setCell _ _ _ _ (HNR.out _ _ _ _ HFW.out HR6.out k q), heap_set HFW.out _, HKW.out.setCell (p := ⟨fb, 1, none⟩) (.inl (show AtB fb fb from rfl)) _,
            HR0W.out.heap fun k q => Below.heap_setCell _ _ _ _ (HNR.out _ _ _ _ HFW.out HR0W.out k q), by simp [World.setCell]; exact hzw⟩
        go_wp2_with fail
        go_quiet (fail)
        go_wp2
        go_roundg g
        case measure => omega
        case rel =>
          obtain ⟨q1, q2, q3, q4, q5⟩ := H5.out
          exact ⟨i + 1, (x, st.2), by omega, by simp, HFD.out, by dsimp only; omega, q1, HV6.out, q2, (HKW.out.drewN _).setCell (p := ⟨fb, 1, none⟩) (.inl (show AtB fb fb from rfl)) _, q4, q5⟩
      · have dc : ((((⟨x.toArray⟩ : ByteArray)[n]'hsz).toNat : Int) == 10) = true := by rw [← last_ten x n hn hsz]; exact hten
        have HFD : Hid ((ls.take (i + 1)).foldl foldR ([], []) = (st.1, st.2 ++ [x.take 1000])) := by unfold Hid; rw [htk, List.foldl_append, HST.out]; show foldR st x = _; rw [hfd, hten]; rfl
        clear hten htk hfd
        have c0w : wr.cell? ⟨fb, 0, none⟩ = some (.int .i64 1000) := by have := HFW.out; simp [World.cell?, this]
        go_wp2_with fail
        go_quiet (fail)
        go_wp2_with fail
        have e72 : ∀ args w, (callFunc 72 args).run Tryz.prog w = .ok (.enter 72 args) w := enters_of Tryz.func72 (by kernel_rfl) rfl
        refine wp_region_heldG (fun w' => w'.cell? ⟨gb, off + i, none⟩ = some (S x) ∧ w'.cell? ⟨fb, 0, none⟩ = some (.int .i64 1000)) 12 (by kernel_rfl) ?_
        simp only [size_list, Array.replicate_succ, Array.replicate_zero, List.push_toArray, List.nil_append, List.cons_append, List.size_toArray, List.length_cons, List.length_nil, Nat.reduceAdd]
        refine' wpAnyG_takeD 0 (some 36) (v := _) (by decide) (by kernel_rfl) (by kernel_rfl) rfl rfl (by kernel_rfl) (by kernel_rfl) (by kernel_rfl) (fun _ _ _ h => h) rfl ?_ ⟨hca, c0w⟩ ?_
        rotate_left 1
        · (intro w' hSw; (try dsimp only at hSw); go_simp; first | done | with_reducible rfl)
        simp only [Act.put, List.setIfInBounds_toArray, List.set_cons_zero, List.set_cons_succ]
        refine' wpAnyG_takeD 1 (some 37) (v := _) (by decide) (by kernel_rfl) (by kernel_rfl) rfl rfl (by kernel_rfl) (by kernel_rfl) (by kernel_rfl) (fun _ _ _ h => h) rfl ?_ ⟨hca, c0w⟩ ?_
        rotate_left 1
        · (intro w' hSw; (try dsimp only at hSw); go_simp; first | done | with_reducible rfl)
        simp only [Act.put, List.setIfInBounds_toArray, List.set_cons_zero, List.set_cons_succ]
        refine' wpAnyG_takeD 2 (some 38) (v := _) (by decide) (by kernel_rfl) (by kernel_rfl) rfl rfl (by kernel_rfl) (by kernel_rfl) (by kernel_rfl) (fun _ _ _ h => h) rfl ?_ ⟨hca, c0w⟩ ?_
        rotate_left 1
        · (intro w' hSw; (try dsimp only at hSw); go_simp; first | done | with_reducible rfl)
        simp only [Act.put, List.setIfInBounds_toArray, List.set_cons_zero, List.set_cons_succ]
        refine' wpAnyG_takeD 3 (some 39) (v := _) (by decide) (by kernel_rfl) (by kernel_rfl) rfl rfl (by kernel_rfl) (by kernel_rfl) (by kernel_rfl) (fun _ _ _ h => h) rfl ?_ ⟨hca, c0w⟩ ?_
        rotate_left 1
        · (intro w' hSw; (try dsimp only at hSw); go_simp; first | done | with_reducible rfl)
        simp only [Act.put, List.setIfInBounds_toArray, List.set_cons_zero, List.set_cons_succ]
        refine' wpAnyG_takeD 4 (some 40) (v := _) (by decide) (by kernel_rfl) (by kernel_rfl) rfl rfl (by kernel_rfl) (by kernel_rfl) (by kernel_rfl) (fun _ _ _ h => h) rfl ?_ ⟨hca, c0w⟩ ?_
        rotate_left 1
        · (intro w' hSw; (try dsimp only at hSw); go_simp; first | done | with_reducible rfl)
        simp only [Act.put, List.setIfInBounds_toArray, List.set_cons_zero, List.set_cons_succ]
        refine' wpAnyG_takeD 5 (some 41) (v := _) (by decide) (by kernel_rfl) (by kernel_rfl) rfl rfl (by kernel_rfl) (by kernel_rfl) (by kernel_rfl) (fun _ _ _ h => h) rfl ?_ ⟨hca, c0w⟩ ?_
        rotate_left 1
        · (intro w' hSw; (try dsimp only at hSw); go_simp; first | done | with_reducible rfl)
        simp only [Act.put, List.setIfInBounds_toArray, List.set_cons_zero, List.set_cons_succ]
        refine' wpAnyG_takeD 6 (some 42) (v := _) (by decide) (by kernel_rfl) (by kernel_rfl) rfl rfl (by kernel_rfl) (by kernel_rfl) (by kernel_rfl) (fun _ _ _ h => h) rfl ?_ ⟨hca, c0w⟩ ?_
        rotate_left 1
        · (intro w' hSw; (try dsimp only at hSw); go_simp; first | done | with_reducible rfl)
        simp only [Act.put, List.setIfInBounds_toArray, List.set_cons_zero, List.set_cons_succ]
        refine' wpAnyG_takeD 7 (some 43) (v := _) (by decide) (by kernel_rfl) (by kernel_rfl) rfl rfl (by kernel_rfl) (by kernel_rfl) (by kernel_rfl) (fun _ _ _ h => h) rfl ?_ ⟨hca, c0w⟩ ?_
        rotate_left 1
        · (intro w' hSw; (try dsimp only at hSw); go_simp; first | done | with_reducible rfl)
        simp only [Act.put, List.setIfInBounds_toArray, List.set_cons_zero, List.set_cons_succ]
        refine' wpAnyG_takeD 8 (some 44) (v := _) (by decide) (by kernel_rfl) (by kernel_rfl) rfl rfl (by kernel_rfl) (by kernel_rfl) (by kernel_rfl) (fun _ _ _ h => h) rfl ?_ ⟨hca, c0w⟩ ?_
        rotate_left 1
        · (intro w' hSw; (try dsimp only at hSw); go_simp; first | done | with_reducible rfl)
        simp only [Act.put, List.setIfInBounds_toArray, List.set_cons_zero, List.set_cons_succ]
        refine wpAnyG_call 9 (some 45) (f := 72) (args := #[S x, .int .i64 1000]) (by kernel_rfl) rfl rfl rfl ?_ ?_
        · go_simp
        refine (toldR_calls x (by omega) _).mono ?_
        rintro e w3 ⟨rfl, hb3⟩
        have hb3' : Below wr.heap.size wr w3 := ((below_drewN' (Below.refl _ _) _).drew).trans hb3
        have z3 := hb3'.size
        have kp3 : ∀ (q : Addr) (u : Value), wr.cell? q = some u → w3.cell? q = some u := fun q u hq => (World.cell?_of_block (hb3'.block q.block (World.block_lt_of_cell? _ q hq))).trans hq
        refine ⟨_, rfl, fun _ => ⟨kp3 _ _ hca, kp3 _ _ c0w⟩, ?_⟩
        simp only [Act.put, List.setIfInBounds_toArray, List.set_cons_zero, List.set_cons_succ]
        have hb4 : Below w3.heap.size w3 (w3.alloc (Obj.cells #[S (x.take 1000)] 9)) := (Below.refl _ _).alloc (Nat.le_refl _) _
        have z4 := hb4.size
        have kp4 : ∀ (q : Addr) (u : Value), w3.cell? q = some u → (w3.alloc (Obj.cells #[S (x.take 1000)] 9)).cell? q = some u := fun q u hq => (World.cell?_of_block (hb4.block q.block (World.block_lt_of_cell? _ q hq))).trans hq
        have hr64 : RowAt (w3.alloc (Obj.cells #[S (x.take 1000)] 9)) 9 u6 (strsV st.2) := HR6.out.heap fun k q => (hb4.block k (by have := (HR6.out.lt k q).2; omega)).trans (hb3'.block k (HR6.out.lt k q).2)
        obtain ⟨v9, w9, happ, hr9, hg9, hv9⟩ := hr64.put (by omega) (by omega) (x.take 1000) w3.heap.size (World.cell?_alloc_new _ _ _ 0)
        have hne : ∀ k, u6.ownBlock = some k → k ≠ fb := HNR.out _ _ _ _ HFW.out HR6.out
        have hg9b : ∀ k, k < wr.heap.size → (u6.ownBlock = some k → False) → w9.heap[k]? = wr.heap[k]? := fun k hk hn => (hg9.block k (by omega) (fun e => hn e.symm)).trans ((hb4.block k (by omega)).trans (hb3'.block k hk))
        have kp9 : ∀ (q : Addr) (u : Value), q.block < wr.heap.size → (u6.ownBlock = some q.block → False) → wr.cell? q = some u → w9.cell? q = some u := fun q u hk hn hq => (World.cell?_of_block (hg9b q.block hk hn)).trans hq
        have hfl9 : fb < wr.heap.size := (Array.getElem?_eq_some_iff.1 HFW.out).1
        have h0ne : ∀ k, u6.ownBlock = some k → w1.heap.size ≤ k := HV6.out
        have hgb1 : gb < w1.heap.size := HG0.out gb rfl
        have d1 : w9.cell? ⟨gb, off + i, none⟩ = some (S x) := kp9 _ _ (by show gb < _; omega) (fun e => by have := h0ne _ e; dsimp only at this; omega) hca
        have d0 : w9.cell? ⟨fb, 0, none⟩ = some (.int .i64 1000) := kp9 _ _ hfl9 (fun e => hne _ e rfl) c0w
        refine wpAnyG_oneD 10 (some 46) (v := .slice (some ⟨w3.heap.size, 0, none⟩) 1 1) (w' := w3.alloc (Obj.cells #[S (x.take 1000)] 9)) (by kernel_rfl) rfl rfl rfl ?_ (fun _ => ⟨kp4 _ _ (kp3 _ _ hca), kp4 _ _ (kp3 _ _ c0w)⟩) ?_
        · go_simp
        simp only [Act.put, List.setIfInBounds_toArray, List.set_cons_zero, List.set_cons_succ]
        refine wpAnyG_oneD 11 (some 47) (v := v9) (w' := w9) (by kernel_rfl) rfl rfl rfl ?_ (fun _ => ⟨d1, d0⟩) ?_
        · exact exec_append _ (.tmp 36) (.tmp 46) 22 22 rfl _ _ rfl rfl _ _ happ
        simp only [Act.put, List.setIfInBounds_toArray, List.set_cons_zero, List.set_cons_succ]
        refine wpAnyG_oneD 12 (some 6) (v := v9) (w' := w9) (by kernel_rfl) rfl rfl rfl ?_ (fun h => by cases h) ?_
        · go_simp
        simp only [Act.put, List.setIfInBounds_toArray, List.set_cons_zero, List.set_cons_succ]
        refine wpAnyG_done (by kernel_rfl) ?_ _
        have hF9 : w9.heap[fb]? = some (.cells #[.int .i64 1000, S st.1] 84 (0, 0)) := (hg9b fb hfl9 (fun e => hne _ e rfl)).trans HFW.out
        have hr09 : RowAt w9 9 (.slice (some ⟨gb, off, none⟩) ls.length cp0) (strsV ls) := HR0W.out.heap fun k q => hg9b k (HR0W.out.lt k q).2 (fun e => by have h1 := HG0.out k q; have h2 := h0ne k e; omega)
        have hv9' : ∀ k, v9.ownBlock = some k → w1.heap.size ≤ k := fun k q => by
          rcases hv9 k q with e | e
          · exact h0ne k e
          · omega
        have hk9 : Kept (AtB fb) w w9 := by
          refine Kept.grown (b := w3.alloc (Obj.cells #[S (x.take 1000)] 9)) ?_ hg9 (fun k q => .inr (by have := h0ne k q; omega))
          exact (HKW.out.trans (Kept.of_below hb3')).trans (Kept.of_below hb4)
        have z9 := hg9.size
        have HH := Lib.hid (And.intro hF9 (And.intro hr09 (And.intro hv9' (And.intro hk9 hr9))))
        have hz9 : w1.heap.size ≤ w9.heap.size := by omega
        clear hF9 hr09 hv9' hk9 hr9 hv9 hg9 happ hr64 kp9 hg9b kp4 kp3 hb3 hb3' hb4 hne h0ne c0w hca d0 d1
        (try simp only [Exit.then])
        go_wp2
        go_roundg g
        case measure => omega
        case rel =>
          obtain ⟨q1, q2, q3, q4, q5⟩ := HH.out
          exact ⟨i + 1, (st.1, st.2 ++ [x.take 1000]), by omega, by simp, HFD.out, by simp; omega, q5, q3, q1, q4, q2, hz9⟩
end Go.Proofs.YtapanjfheddfnaaGreatDoor
end
section
/- The reference's Feed. -/
namespace Go.Proofs.YtapanjfheddfnaaGreatDoor
open Go.RowKit Go.Shelf
attribute [local go_sem high] ext_to ext_from
attribute [local go_sem] ext_list app_list size_list

theorem RefAt.pushed {w w7 w8 w9 : World} {b : Nat} {s : Sess} {p : RP} {F : Nat → Prop} (h : RefAt w b s p F) (h8 : 8 ≤ w.heap.size) (chunk : Bs) (hb7 : Below w.heap.size w w7) (hk8 : Kept (AtB p.fb) w7 w8)
    (hf8 : w8.heap[p.fb]? = some (.cells #[.int .i64 1000, S (pushR p.left chunk).1] 84 (0, 0))) {row : Option Nat} (hg9 : w8.grownBy w9 row) (hrow : ∀ k, row = some k → w.heap.size ≤ k) (v9 : Value)
    (hr9 : RowAt w9 9 v9 (strsV (s.kept ++ (pushR p.left chunk).2))) (hv9 : ∀ k, v9.ownBlock = some k → w.heap.size ≤ k) :
    RStep b F (pushR p.left chunk).1 w (w9.setCell ⟨b, 2, none⟩ v9) (pushedS s chunk) := by
  have hne : b ≠ p.fb := by
    intro e
    have h1 := h.hs
    have h2 := h.hf
    rw [← e, h1] at h2
    simp at h2
  have hbl := (h.blk b h.fb).2
  have hfl := (h.blk p.fb h.ff).2
  have z7 := hb7.size
  have z8 := hk8.size
  have z9 := hg9.size
  have old : ∀ k, k < w.heap.size → k ≠ p.fb → w9.heap[k]? = w.heap[k]? := fun k hk hn =>
    (hg9.block k (by omega) (fun e => by have := hrow k e.symm; omega)).trans ((hk8.block k (by omega) hn).trans (hb7.block k hk))
  have hs9 : w9.heap[b]? = some (.cells (rcells s p) 66 (0, 0)) := (old b hbl hne).trans h.hs
  have hf9 : w9.heap[p.fb]? = some (.cells #[.int .i64 1000, S (pushR p.left chunk).1] 84 (0, 0)) := (hg9.block _ (by omega) (fun e => by have := hrow _ e.symm; omega)).trans hf8
  have zs : (w9.setCell ⟨b, 2, none⟩ v9).heap.size = w9.heap.size := by simp [World.setCell]
  have hK : Kept F w (w9.setCell ⟨b, 2, none⟩ v9) := by
    have h1 : Kept F w w8 := (Kept.of_below hb7).trans' hk8 fun k q => .inl (by have : k = p.fb := q; rw [this]; exact h.ff)
    exact (h1.grown hg9 fun k q => .inr (hrow k q)).setCell (p := ⟨b, 2, none⟩) (.inl h.fb) _
  have hfix : ∀ k, k ≠ b → (w9.setCell ⟨b, 2, none⟩ v9).heap[k]? = w9.heap[k]? := fun k hk => Below.heap_setCell _ _ _ _ hk
  have hpe := push_eq p.left chunk h.ends
  rw [← h.rest] at hpe
  have e1 : (pushedS s chunk).rest = (pushR p.left chunk).1.take 1000 := by unfold pushedS; rw [hpe]
  have e2 : (pushedS s chunk).kept = s.kept ++ (pushR p.left chunk).2 := by unfold pushedS; rw [hpe]
  refine ⟨hK, { p with left := (pushR p.left chunk).1, kv := v9 }, ⟨.inl h.fb, .inl h.ff, fun k q => .inr ⟨hv9 k q, by have := (hr9.lt k q).2; omega⟩, fun k q => .inl (h.ft k q), fun k q => ?_, ?_, ?_, e1, push_left _ _, ?_, ?_, h.body⟩, rfl⟩
  · rcases q with q | q
    · have := h.blk k q; omega
    · omega
  · exact heap_set hs9 v9
  · exact (hfix p.fb (Ne.symm hne)).trans hf9
  · rw [e2]
    exact hr9.heap fun k q => hfix k (by have := hv9 k q; omega)
  · have hn : ∀ k, p.tv.ownBlock = some k → k ≠ p.fb := by
      rintro k hk rfl
      obtain ⟨cur, hc⟩ := h.rcp.kind _ hk
      have h2 := h.hf
      rw [hc] at h2
      simp at h2
    exact h.rcp.heap fun k q => (hfix k (row_ne h.hs h.rcp k q)).trans (old k (h.rcp.lt k q).2 (hn k q))

/-- Between two lines. -/
def FeedRR (b : Nat) (F : Nat → Prop) (L : Bs) (w : World) (R : Bs × Sess) (T : Nat) (g : Nat) (v6 : Value) (wx : World) : Prop :=
  ∃ (s' : Sess) (out : Bs), s'.kept.length = g ∧ runF g s' out = R ∧ Ok s' T ∧ out.length + 200 * g ≤ 1000000000 ∧ v6 = S out ∧ RStep b F L w wx s'

theorem turnR_calls (w : World) (h8 : 8 ≤ w.heap.size) (b : Nat) (s : Sess) (p : RP) (F : Nat → Prop) (h : RefAt w b s p F) (hw : s.waits = false) (hy : s.body = none) (hm : s.most ≤ 9223372036854775807) (hto : s.rcp.length ≤ 16) (l : Bs) (hl : l.length ≤ 1000000) :
    Calls Tryz.prog 42 #[.pointer (some ⟨b, 0, none⟩), S l] w fun e w' => e = .returned (S (turnS s l).1) ∧ RStep b F p.left w w' (turnS s l).2 := by
  have : turnS s l = commandR s l := by unfold turnS; rw [hy, command_eq]
  rw [this]
  exact commandR_calls w h8 b s p F h hw hm (by omega) l hl
theorem turnR_line (w : World) (h8 : 8 ≤ w.heap.size) (b : Nat) (s : Sess) (p : RP) (F : Nat → Prop) (h : RefAt w b s p F) (hw : s.waits = false) (y : Bs) (hy : s.body = some y) (l : Bs) (hl : y.length + l.length ≤ 100000000) :
    Calls Tryz.prog 41 #[.pointer (some ⟨b, 0, none⟩), S l] w fun e w' => e = .returned (S (turnS s l).1) ∧ RStep b F p.left w w' (turnS s l).2 := by
  have : turnS s l = lineS s y l := by unfold turnS; rw [hy]
  rw [this]
  exact lineR_calls w h8 b s p F h hw y l hy hl

set_option maxHeartbeats 8000000 in
set_option maxRecDepth 100000 in
theorem feedR_calls (w : World) (h8 : 8 ≤ w.heap.size) (b : Nat) (s : Sess) (p : RP) (F : Nat → Prop) (h : RefAt w b s p F) (T : Nat) (hok : Ok s T) (chunk : Bs) (hT : T + 2 * chunk.length ≤ 1000000) (hL : p.left.length + chunk.length ≤ 1000000) :
    Calls Tryz.prog 15 #[.pointer (some ⟨b, 0, none⟩), S chunk] w fun e w' => e = .returned (.tuple #[S (feedS s chunk).1, .bool (feedS s chunk).2.waits]) ∧ RStep b F (pushR p.left chunk).1 w w' (feedS s chunk).2 := by
  have hkl : s.kept.length ≤ T := by
    have := hok.vol
    have := kept_le s
    omega
  have hpl : (pushR p.left chunk).2.length ≤ 1000000 := by
    have hpe := push_eq p.left chunk h.ends
    rw [← h.rest] at hpe
    have e1 := (pushed_ok (chunk := chunk) hok).vol
    have e2 := kept_le (pushedS s chunk)
    have e3 : (pushedS s chunk).kept = s.kept ++ (pushR p.left chunk).2 := by unfold pushedS; rw [hpe]
    rw [e3, List.length_append] at e2
    omega
  obtain ⟨ka, kc, hkv⟩ := h.kept.slice
  rw [strsV_len] at hkv
  have hbd : Below w.heap.size w w.drew := (Below.refl _ _).drew
  have hd := h.below hbd
  have g0 : w.drew.cell? ⟨b, 2, none⟩ = some (.slice ka s.kept.length kc) := by rw [← hkv]; exact h.cell 2
  have g1 : w.drew.cell? ⟨b, 1, none⟩ = some (.pointer (some ⟨p.fb, 0, none⟩)) := h.cell 1
  have zd : w.drew.heap.size = w.heap.size := rfl
  have hbl := (h.blk b h.fb).2
  have e40 : ∀ args w, (callFunc 40 args).run Tryz.prog w = .ok (.enter 40 args) w := enters_of Tryz.func40 (by kernel_rfl) rfl
  obtain ⟨a7, c7, w7, happ, hr7, hv7, hb7⟩ := clone_new w.drew h8 p.kv s.kept hd.kept (by omega)
  rw [hkv] at happ
  have z7 := hb7.size
  have hb7w : Below w.heap.size w w7 := below_then' hbd hb7
  have hba : Below w.drew.heap.size w.drew (w.drew.alloc (Obj.cells #[] 9)) := (Below.refl _ _).alloc (Nat.le_refl _) _
  have kpa : ∀ (q : Addr) (u : Value), w.drew.cell? q = some u → (w.drew.alloc (Obj.cells #[] 9)).cell? q = some u := fun q u hq => (World.cell?_of_block (hba.block q.block (World.block_lt_of_cell? _ q hq))).trans hq
  have kp7 : ∀ (q : Addr) (u : Value), w.drew.cell? q = some u → w7.cell? q = some u := fun q u hq => (World.cell?_of_block (hb7.block q.block (World.block_lt_of_cell? _ q hq))).trans hq
  have h7 := hd.below hb7
  have H := Lib.hid h
  obtain ⟨R, hR⟩ : ∃ R, feedS s chunk = R := ⟨_, rfl⟩
  obtain ⟨L', hL'⟩ : ∃ L', (pushR p.left chunk).1 = L' := ⟨_, rfl⟩
  rw [hR, hL']
  have HRR := Lib.hid hR
  have HLL := Lib.hid hL'
  clear hR hL'
  go_enter Tryz.func15, Tryz.ntmps15
  go_wp2_with fail
  refine wp_region_heldG (fun w' => w'.cell? ⟨b, 2, none⟩ = some (.slice ka s.kept.length kc) ∧ w'.cell? ⟨b, 1, none⟩ = some (.pointer (some ⟨p.fb, 0, none⟩))) 16 (by kernel_rfl) ?_
  simp only [size_list, Array.replicate_succ, Array.replicate_zero, List.push_toArray, List.nil_append, List.cons_append, List.size_toArray, List.length_cons, List.length_nil, Nat.reduceAdd]
  refine' wpAnyG_takeD 0 (some 8) (v := _) (by decide) (by kernel_rfl) (by kernel_rfl) rfl rfl (by kernel_rfl) (by kernel_rfl) (by kernel_rfl) (fun _ _ _ h => h) rfl ?_ ⟨g0, g1⟩ ?_
  rotate_left 1
  · (intro w' hSw; (try dsimp only at hSw); go_simp; first | done | with_reducible rfl)
  simp only [Act.put, List.setIfInBounds_toArray, List.set_cons_zero, List.set_cons_succ]
  refine' wpAnyG_takeD 2 (some 10) (v := _) (by decide) (by kernel_rfl) (by kernel_rfl) rfl rfl (by kernel_rfl) (by kernel_rfl) (by kernel_rfl) (fun _ _ _ h => h) rfl ?_ ⟨g0, g1⟩ ?_
  rotate_left 1
  · (intro w' hSw; (try dsimp only at hSw); go_simp; first | done | with_reducible rfl)
  simp only [Act.put, List.setIfInBounds_toArray, List.set_cons_zero, List.set_cons_succ]
  refine' wpAnyG_takeD 3 (some 11) (v := _) (by decide) (by kernel_rfl) (by kernel_rfl) rfl rfl (by kernel_rfl) (by kernel_rfl) (by kernel_rfl) (fun _ _ _ h => h) rfl ?_ ⟨g0, g1⟩ ?_
  rotate_left 1
  · (intro w' hSw; (try dsimp only at hSw); go_simp; first | done | with_reducible rfl)
  simp only [Act.put, List.setIfInBounds_toArray, List.set_cons_zero, List.set_cons_succ]
  refine' wpAnyG_takeD 4 (some 12) (v := _) (by decide) (by kernel_rfl) (by kernel_rfl) rfl rfl (by kernel_rfl) (by kernel_rfl) (by kernel_rfl) (fun _ _ _ h => h) rfl ?_ ⟨g0, g1⟩ ?_
  rotate_left 1
  · (intro w' hSw; (try dsimp only at hSw); go_simp; first | done | with_reducible rfl)
  simp only [Act.put, List.setIfInBounds_toArray, List.set_cons_zero, List.set_cons_succ]
  refine' wpAnyG_takeD 5 (some 13) (v := _) (by decide) (by kernel_rfl) (by kernel_rfl) rfl rfl (by kernel_rfl) (by kernel_rfl) (by kernel_rfl) (fun _ _ _ h => h) rfl ?_ ⟨g0, g1⟩ ?_
  rotate_left 1
  · (intro w' hSw; (try dsimp only at hSw); go_simp; first | done | with_reducible rfl)
  simp only [Act.put, List.setIfInBounds_toArray, List.set_cons_zero, List.set_cons_succ]
  refine' wpAnyG_takeD 7 (some 15) (v := _) (by decide) (by kernel_rfl) (by kernel_rfl) rfl rfl (by kernel_rfl) (by kernel_rfl) (by kernel_rfl) (fun _ _ _ h => h) rfl ?_ ⟨g0, g1⟩ ?_
  rotate_left 1
  · (intro w' hSw; (try dsimp only at hSw); go_simp; first | done | with_reducible rfl)
  simp only [Act.put, List.setIfInBounds_toArray, List.set_cons_zero, List.set_cons_succ]
  refine' wpAnyG_takeD 8 (some 16) (v := _) (by decide) (by kernel_rfl) (by kernel_rfl) rfl rfl (by kernel_rfl) (by kernel_rfl) (by kernel_rfl) (fun _ _ _ h => h) rfl ?_ ⟨g0, g1⟩ ?_
  rotate_left 1
  · (intro w' hSw; (try dsimp only at hSw); go_simp; first | done | with_reducible rfl)
  simp only [Act.put, List.setIfInBounds_toArray, List.set_cons_zero, List.set_cons_succ]
  refine' wpAnyG_takeD 9 (some 17) (v := _) (by decide) (by kernel_rfl) (by kernel_rfl) rfl rfl (by kernel_rfl) (by kernel_rfl) (by kernel_rfl) (fun _ _ _ h => h) rfl ?_ ⟨g0, g1⟩ ?_
  rotate_left 1
  · (intro w' hSw; (try dsimp only at hSw); go_simp; first | done | with_reducible rfl)
  simp only [Act.put, List.setIfInBounds_toArray, List.set_cons_zero, List.set_cons_succ]
  refine' wpAnyG_takeD 10 (some 18) (v := _) (by decide) (by kernel_rfl) (by kernel_rfl) rfl rfl (by kernel_rfl) (by kernel_rfl) (by kernel_rfl) (fun _ _ _ h => h) rfl ?_ ⟨g0, g1⟩ ?_
  rotate_left 1
  · (intro w' hSw; (try dsimp only at hSw); go_simp; first | done | with_reducible rfl)
  simp only [Act.put, List.setIfInBounds_toArray, List.set_cons_zero, List.set_cons_succ]
  refine' wpAnyG_takeD 11 (some 19) (v := _) (by decide) (by kernel_rfl) (by kernel_rfl) rfl rfl (by kernel_rfl) (by kernel_rfl) (by kernel_rfl) (fun _ _ _ h => h) rfl ?_ ⟨g0, g1⟩ ?_
  rotate_left 1
  · (intro w' hSw; (try dsimp only at hSw); go_simp; first | done | with_reducible rfl)
  simp only [Act.put, List.setIfInBounds_toArray, List.set_cons_zero, List.set_cons_succ]
  refine wpAnyG_oneD 1 (some 9) (v := .slice (some ⟨w.drew.heap.size, 0, none⟩) 0 0) (w' := w.drew.alloc (Obj.cells #[] 9)) (by kernel_rfl) rfl rfl rfl ?_ (fun _ => ⟨kpa _ _ g0, kpa _ _ g1⟩) ?_
  · go_simp
  simp only [Act.put, List.setIfInBounds_toArray, List.set_cons_zero, List.set_cons_succ]
  refine wpAnyG_oneD 6 (some 14) (v := .slice a7 s.kept.length c7) (w' := w7) (by kernel_rfl) rfl rfl rfl ?_ (fun _ => ⟨kp7 _ _ g0, kp7 _ _ g1⟩) ?_
  · exact exec_append _ (.tmp 9) (.tmp 13) 22 22 rfl _ _ rfl rfl _ _ happ
  simp only [Act.put, List.setIfInBounds_toArray, List.set_cons_zero, List.set_cons_succ]
  refine wpAnyG_call 12 (some 20) (f := 40) (args := #[.pointer (some ⟨p.fb, 0, none⟩), S chunk]) (by kernel_rfl) rfl rfl rfl ?_ ?_
  · go_simp
  refine (pushFR_calls w7 (by omega) p.fb (h7.blk _ h7.ff).1 p.left chunk hL h7.hf).mono ?_
  rintro e w8 ⟨ov, rfl, hro, hvo, hf8, hk8⟩
  have hbf : b ≠ p.fb := by
    intro e
    have q1 := h.hs
    have q2 := h.hf
    rw [← e, q1] at q2
    simp at q2
  have c28 : w8.cell? ⟨b, 2, none⟩ = some (.slice ka s.kept.length kc) := hk8.cell (kp7 _ _ g0) hbf
  have c18 : w8.cell? ⟨b, 1, none⟩ = some (.pointer (some ⟨p.fb, 0, none⟩)) := hk8.cell (kp7 _ _ g1) hbf
  have z8 := hk8.size
  have hfl := (h.blk p.fb h.ff).2
  have hr78 : RowAt w8 9 (.slice a7 s.kept.length c7) (strsV s.kept) := hr7.kept hk8 fun k q e => by
    have e' : k = p.fb := e
    have := hv7 k q
    omega
  obtain ⟨v9, w9, happ9, hr9, hg9, hv9⟩ := RowAt.append (P := Tryz.prog) hr78 (by omega) 22 22 22 _ _ 16 Tryz.underlying22 (by rfl) (by rfl) (by rfl) (by rfl) (by rfl) ov (pushR p.left chunk).2.length (strsV (pushR p.left chunk).2) hro.src (by rw [strsV_len]; simp [maxLen]; omega) (by rw [strsV_len]; omega)
  have hsv : strsV s.kept ++ strsV (pushR p.left chunk).2 = strsV (s.kept ++ (pushR p.left chunk).2) := by simp [strsV]
  rw [hsv] at hr9
  obtain ⟨va, vc, hva⟩ := hr9.slice
  rw [strsV_len] at hva
  subst hva
  have z9 := hg9.size
  have hbrow : ¬ (Value.slice a7 s.kept.length c7).ownBlock = some b := fun e => by have := hv7 b e; omega
  have kp9 : ∀ (i : Nat) (u : Value), w8.cell? ⟨b, i, none⟩ = some u → w9.cell? ⟨b, i, none⟩ = some u := fun i u hq => (World.cell?_of_block (hg9.block b (by omega) (fun e => hbrow e.symm))).trans hq
  have hs9 : w9.heap[b]? = some (.cells (rcells s p) 66 (0, 0)) := (hg9.block b (by omega) (fun e => hbrow e.symm)).trans ((hk8.block b (by omega) hbf).trans ((hb7w.block b hbl).trans h.hs))
  have f29 : w9.frozen? ⟨b, 2, none⟩ = false := by simp [World.frozen?, hs9]
  have hstep := h.pushed h8 chunk hb7w hk8 hf8 hg9 (fun k q => hv7 k q) _ hr9 (fun k q => by
    rcases hv9 k q with e | e
    · exact hv7 k e
    · omega)
  have HST := Lib.hid hstep
  refine ⟨ov, rfl, fun _ => ⟨c28, c18⟩, ?_⟩
  simp only [Act.put, List.setIfInBounds_toArray, List.set_cons_zero, List.set_cons_succ]
  refine wpAnyG_oneD 13 (some 21) (v := .slice va (s.kept ++ (pushR p.left chunk).2).length vc) (w' := w9) (by kernel_rfl) rfl rfl rfl ?_ (fun _ => ⟨kp9 _ _ c28, kp9 _ _ c18⟩) ?_
  · exact exec_append _ (.tmp 14) (.tmp 20) 22 22 rfl _ _ rfl rfl _ _ happ9
  have c29 := kp9 _ _ c28
  have c19 := kp9 _ _ c18
  simp only [Act.put, List.setIfInBounds_toArray, List.set_cons_zero, List.set_cons_succ]
  refine' wpAnyG_takeT 14 (some 22) (v := _) (by decide) rfl rfl (by kernel_rfl) (by kernel_rfl) (by kernel_rfl) (fun _ _ _ h => h) rfl ?_ (fun _ => ⟨c29, c19⟩) ?_
  rotate_left 1
  · (intro w'; go_simp; first | done | with_reducible rfl)
  simp only [Act.put, List.setIfInBounds_toArray, List.set_cons_zero, List.set_cons_succ]
  refine' wpAnyG_takeT 15 (some 23) (v := _) (by decide) rfl rfl (by kernel_rfl) (by kernel_rfl) (by kernel_rfl) (fun _ _ _ h => h) rfl ?_ (fun _ => ⟨c29, c19⟩) ?_
  rotate_left 1
  · (intro w'; go_simp; first | done | with_reducible rfl)
  simp only [Act.put, List.setIfInBounds_toArray, List.set_cons_zero, List.set_cons_succ]
  refine wpAnyG_one_skip (i := 16) (w' := w9.setCell ⟨b, 2, none⟩ (.slice va (s.kept ++ (pushR p.left chunk).2).length vc)) (by kernel_rfl) rfl rfl ?_ ?_ ?_
  · go_simp
  · exact fun h => (by cases h)
  refine wpAnyG_done (by kernel_rfl) ?_ _
  obtain ⟨w3, hw3⟩ : ∃ w3, w9.setCell ⟨b, 2, none⟩ (.slice va (s.kept ++ (pushR p.left chunk).2).length vc) = w3 := ⟨_, rfl⟩
  rw [hw3] at HST ⊢
  have hokP := pushed_ok (chunk := chunk) hok
  obtain ⟨s1, hs1⟩ : ∃ s1, pushedS s chunk = s1 := ⟨_, rfl⟩
  have hrun : Hid (runF s1.kept.length s1 [] = R) := by unfold Hid; rw [← hs1, ← HRR.out]; rfl
  rw [hs1] at HST hokP
  have hkl1 : s1.kept.length ≤ 1000000 := by
    have e := hokP.vol
    have e2 := kept_le s1
    omega
  rw [HLL.out] at HST
  have hrel : FeedRR b F L' w R (T + 2 * chunk.length) s1.kept.length (S []) w3 := ⟨s1, [], rfl, hrun.out, hokP, by simp; omega, rfl, HST.out⟩
  have HREL := Lib.hid hrel
  clear hrel hs1 hw3 hstep c28 c18 c29 c19 f29 hs9 kp9 hbrow hv9 hg9 hr9 happ9 hsv hr78 hf8 hk8 hvo hro h7 kp7 kpa hba hb7w hb7 hv7 hr7 happ g0 g1 hd hbd hpl hkl HST hbf h
  (try simp only [Exit.then])
  go_wp2_with fail
  go_loopg [6] s1.kept.length (fun g v6 wx => FeedRR b F L' w R (T + 2 * chunk.length) g v6 wx)
  case atStart => exact HREL.out
  case round =>
    obtain ⟨s', out, hg, hrunx, hokx, hout, rfl, hkx, p', hx, hlx⟩ := hrel
    have HX := Lib.hid hx
    have HKX := Lib.hid hkx
    obtain ⟨ka', kc', hkv'⟩ := hx.kept.slice
    rw [strsV_len, hg] at hkv'
    have c2 : wr.cell? ⟨b, 2, none⟩ = some (.slice ka' gk kc') := by rw [← hkv']; exact hx.cell 2
    have c8 : wr.cell? ⟨b, 10, none⟩ = some (.bool s'.waits) := hx.cell 10
    have c9 : wr.cell? ⟨b, 11, none⟩ = some (.bool s'.over) := hx.cell 11
    have HLX := Lib.hid hlx
    clear hlx
    cases gk with
    | zero =>
      have HE : Hid ((out, s') = R) := hrunx
      clear hx hkx hrunx
      go_wp2_with fail
      go_quiet (fail)
      go_wp2
      go_ret2
      rw [← HE.out]
      exact ⟨rfl, RStep.then H.out h8 ⟨HKX.out, p', HX.out, HLX.out⟩ (below_drewN' (Below.refl _ _) _)⟩
    | succ g =>
      obtain ⟨x, ks, hks⟩ : ∃ x ks, s'.kept = x :: ks := by
        cases hq : s'.kept with
        | nil => rw [hq] at hg; simp at hg
        | cons x ks => exact ⟨x, ks, rfl⟩
      have hrx : runF (g + 1) s' out = if s'.waits || s'.over then (out, s') else runF g (turnS { s' with kept := ks } x).2 (out ++ (turnS { s' with kept := ks } x).1) := by
        conv => lhs; unfold runF
        rw [hks]
      have dg : decide ((0 : Int) < ((g + 1 : Nat) : Int)) = true := by simp
      cases hwt : s'.waits
      · rw [hwt] at c8
        cases hov : s'.over
        · rw [hov] at c9
          obtain ⟨tn, htn⟩ : ∃ tn, turnS { s' with kept := ks } x = tn := ⟨_, rfl⟩
          obtain ⟨ok2, kp2, le2⟩ := turn_ok hks hwt hokx
          rw [htn] at ok2 kp2 le2
          rw [htn] at hrx
          have HRN : Hid (runF g tn.2 (out ++ tn.1) = R) := by unfold Hid; rw [← hrunx, hrx]; simp [hwt, hov]
          have HTN := Lib.hid htn
          have HKP := Lib.hid kp2
          have HOK := Lib.hid ok2
          obtain ⟨kb, koff, kcap, hek, hcell⟩ := hx.kept.cells (by rw [hks]; simp [strsV])
          rw [hek, strsV_len, hg] at hkv'
          cases hkv'
          have c47 : wr.cell? ⟨kb, koff, none⟩ = some (S x) := by
            have := hcell 0 (S x) (by rw [hks]; rfl)
            simpa using this
          have f2 := hx.frozen 2
          have c7 : wr.cell? ⟨b, 7, none⟩ = some (.bool (s'.body.isSome && !s'.waits)) := hx.cell 7
          rw [hwt] at c7
          have hkc1 : (1 : Int) ≤ (kc' : Int) := by
            have := hx.kept
            rw [hek, hks] at this
            rcases this with ⟨e, _⟩ | ⟨_, _, _, _, e, _, _, _, h2, _⟩
            · cases e
            · cases e; simp [strsV] at h2; omega
          have hb1i : (1 : Int) ≤ ((g + 1 : Nat) : Int) := by omega
          have hgc : ((g + 1 : Nat) : Int) ≤ (kc' : Int) := by
            have := hx.kept
            rw [hek] at this
            rcases this with ⟨e, _⟩ | ⟨_, _, _, _, e, _, _, _, h2, _⟩
            · cases e
            · cases e; rw [strsV_len, hg] at h2; omega
          clear hrx hcell hrunx htn kp2 ok2
          have hvol := hokx.vol
          unfold vol at hvol
          rw [hks] at hvol
          simp only [List.map_cons, List.sum_cons] at hvol
          have hks' : ks.length = g := by have := hg; rw [hks] at this; simpa using this
          have hwr8 : 8 ≤ wr.heap.size := by have := hkx.size; omega
          have hrow : RowAt wr 9 (.slice (some ⟨kb, koff, none⟩) ((strsV ks).length + 1) kc') (S x :: strsV ks) := by
            have := hx.kept
            rw [hek, hks] at this
            exact this
          have htail := hrow.tail
          rw [strsV_len, hks'] at htail
          have hmost := hokx.most
          have hrcp := hokx.rcp
          clear hrow hokx
          cases hbo : s'.body with
          | none =>
            rw [hbo] at c7 hvol
            have hxl : x.length ≤ 1000000 := by omega
            by_cases hk1 : kc' = 1
            · subst hk1
              have hrow2 : RowAt wr 9 (.slice (some ⟨kb, koff, none⟩) g 0) (strsV ks) := htail.2 rfl
              have H2 := Lib.hid (hx.put 2 (.slice (some ⟨kb, koff, none⟩) g 0) (s' := { s' with kept := ks }) (p' := { p' with kv := .slice (some ⟨kb, koff, none⟩) g 0 }) rfl rfl rfl rfl hrow2 hx.rcp hx.body (fun k q => hx.fk k (by rw [hek]; exact q)) hx.ft)
              have HK2 := Lib.hid (hx.own1 2 (.slice (some ⟨kb, koff, none⟩) g 0))
              clear hrow2
              go_wp2_with fail
              refine (turnR_calls _ (by simp [World.setCell]; omega) b _ _ _ H2.out hwt hbo hmost hrcp x hxl).mono ?_
              rw [HTN.out]
              rintro e w6 ⟨rfl, hst⟩
              have hst2 : RStep b F L' w w6 tn.2 := RStep.from H.out HKX.out h8 (by rw [← HLX.out]; exact RStep.from' HX.out HK2.out hwr8 hst)
              have HST2 := Lib.hid hst2
              clear hst hst2
              go_wp2
              go_roundg g
              case measure => omega
              case rel => exact ⟨tn.2, out ++ tn.1, by rw [HKP.out]; exact hks', HRN.out, HOK.out, by rw [List.length_append]; omega, by first | rfl | simp, HST2.out⟩
            · have hrow2 : RowAt wr 9 (.slice (some ⟨kb, koff + 1, none⟩) g (kc' - 1)) (strsV ks) := htail.1
              have H2 := Lib.hid (hx.put 2 (.slice (some ⟨kb, koff + 1, none⟩) g (kc' - 1)) (s' := { s' with kept := ks }) (p' := { p' with kv := .slice (some ⟨kb, koff + 1, none⟩) g (kc' - 1) }) rfl rfl rfl rfl hrow2 hx.rcp hx.body (fun k q => hx.fk k (by rw [hek]; exact q)) hx.ft)
              have HK2 := Lib.hid (hx.own1 2 (.slice (some ⟨kb, koff + 1, none⟩) g (kc' - 1)))
              clear hrow2
              go_wp2_with fail
              refine (turnR_calls _ (by simp [World.setCell]; omega) b _ _ _ H2.out hwt hbo hmost hrcp x hxl).mono ?_
              rw [HTN.out]
              rintro e w6 ⟨rfl, hst⟩
              have hst2 : RStep b F L' w w6 tn.2 := RStep.from H.out HKX.out h8 (by rw [← HLX.out]; exact RStep.from' HX.out HK2.out hwr8 hst)
              have HST2 := Lib.hid hst2
              clear hst hst2
              go_wp2
              go_roundg g
              case measure => omega
              case rel => exact ⟨tn.2, out ++ tn.1, by rw [HKP.out]; exact hks', HRN.out, HOK.out, by rw [List.length_append]; omega, by first | rfl | simp, HST2.out⟩
          | some y =>
            rw [hbo] at c7 hvol
            simp only [Option.getD_some] at hvol
            have hxl : y.length + x.length ≤ 100000000 := by omega
            by_cases hk1 : kc' = 1
            · subst hk1
              have hrow2 : RowAt wr 9 (.slice (some ⟨kb, koff, none⟩) g 0) (strsV ks) := htail.2 rfl
              have H2 := Lib.hid (hx.put 2 (.slice (some ⟨kb, koff, none⟩) g 0) (s' := { s' with kept := ks }) (p' := { p' with kv := .slice (some ⟨kb, koff, none⟩) g 0 }) rfl rfl rfl rfl hrow2 hx.rcp hx.body (fun k q => hx.fk k (by rw [hek]; exact q)) hx.ft)
              have HK2 := Lib.hid (hx.own1 2 (.slice (some ⟨kb, koff, none⟩) g 0))
              clear hrow2
              go_wp2_with fail
              refine (turnR_line _ (by simp [World.setCell]; omega) b _ _ _ H2.out hwt y hbo x hxl).mono ?_
              rw [HTN.out]
              rintro e w6 ⟨rfl, hst⟩
              have hst2 : RStep b F L' w w6 tn.2 := RStep.from H.out HKX.out h8 (by rw [← HLX.out]; exact RStep.from' HX.out HK2.out hwr8 hst)
              have HST2 := Lib.hid hst2
              clear hst hst2
              go_wp2
              go_roundg g
              case measure => omega
              case rel => exact ⟨tn.2, out ++ tn.1, by rw [HKP.out]; exact hks', HRN.out, HOK.out, by rw [List.length_append]; omega, by first | rfl | simp, HST2.out⟩
            · have hrow2 : RowAt wr 9 (.slice (some ⟨kb, koff + 1, none⟩) g (kc' - 1)) (strsV ks) := htail.1
              have H2 := Lib.hid (hx.put 2 (.slice (some ⟨kb, koff + 1, none⟩) g (kc' - 1)) (s' := { s' with kept := ks }) (p' := { p' with kv := .slice (some ⟨kb, koff + 1, none⟩) g (kc' - 1) }) rfl rfl rfl rfl hrow2 hx.rcp hx.body (fun k q => hx.fk k (by rw [hek]; exact q)) hx.ft)
              have HK2 := Lib.hid (hx.own1 2 (.slice (some ⟨kb, koff + 1, none⟩) g (kc' - 1)))
              clear hrow2
              go_wp2_with fail
              refine (turnR_line _ (by simp [World.setCell]; omega) b _ _ _ H2.out hwt y hbo x hxl).mono ?_
              rw [HTN.out]
              rintro e w6 ⟨rfl, hst⟩
              have hst2 : RStep b F L' w w6 tn.2 := RStep.from H.out HKX.out h8 (by rw [← HLX.out]; exact RStep.from' HX.out HK2.out hwr8 hst)
              have HST2 := Lib.hid hst2
              clear hst hst2
              go_wp2
              go_roundg g
              case measure => omega
              case rel => exact ⟨tn.2, out ++ tn.1, by rw [HKP.out]; exact hks', HRN.out, HOK.out, by rw [List.length_append]; omega, by first | rfl | simp, HST2.out⟩
        · rw [hov] at c9
          have HE : Hid ((out, s') = R) := by unfold Hid; rw [← hrunx, hrx]; simp [hwt, hov]
          have HWT := Lib.hid hwt
          clear hkx hx hrx hwt hov hrunx
          go_wp2_with fail
          go_quiet (fail)
          go_wp2
          go_ret2
          rw [← HE.out]
          exact ⟨(by rw [show (out, s').2.waits = false from HWT.out]; rfl), RStep.then H.out h8 ⟨HKX.out, p', HX.out, HLX.out⟩ (below_drewN' (Below.refl _ _) _)⟩
      · rw [hwt] at c8
        have HE : Hid ((out, s') = R) := by unfold Hid; rw [← hrunx, hrx]; simp [hwt]
        have HWT := Lib.hid hwt
        clear hkx hx hrx hwt hrunx
        go_wp2_with fail
        go_quiet (fail)
        go_wp2
        go_ret2
        rw [← HE.out]
        exact ⟨(by rw [show (out, s').2.waits = true from HWT.out]; rfl), RStep.then H.out h8 ⟨HKX.out, p', HX.out, HLX.out⟩ (below_drewN' (Below.refl _ _) _)⟩
end Go.Proofs.YtapanjfheddfnaaGreatDoor
end
section
/- SmtpTells: the walk. -/
namespace Go.Proofs.YtapanjfheddfnaaGreatDoor
open Go.RowKit Go.Shelf
attribute [local go_sem high] ext_to ext_from
attribute [local go_sem] ext_list app_list size_list

/-- The program's session and the reference's, side by side, both of the call's own. -/
def TwoR (w0 : World) (bs bt : Nat) (s t : Sess) (N : Nat) (W : World) : Prop :=
  ∃ (ps : SP) (Fs : Nat → Prop) (pt : RP) (Ft : Nat → Prop), SessAt W bs s ps Fs ∧ RefAt W bt t pt Ft ∧ (∀ k, Fs k → ¬ Ft k) ∧ (∀ k, Fs k → w0.heap.size ≤ k) ∧ (∀ k, Ft k → w0.heap.size ≤ k) ∧ Below w0.heap.size w0 W ∧ pt.left.length ≤ N
section
variable {w0 W w' : World} {bs bt N N' : Nat} {s t s' t' : Sess} {L : Bs}
theorem TwoR.bel (h : TwoR w0 bs bt s t N W) : Below w0.heap.size w0 W := by
  obtain ⟨ps, Fs, pt, Ft, hs, ht, hd, h1, h2, hb, hn⟩ := h
  exact hb
theorem TwoR.glob (h : TwoR w0 bs bt s t N W) (G : Glob w0) : Glob W := G.below' h.bel
theorem TwoR.below (h : TwoR w0 bs bt s t N W) (hk : Below W.heap.size W w') : TwoR w0 bs bt s t N w' := by
  obtain ⟨ps, Fs, pt, Ft, hs, ht, hd, h1, h2, hb, hn⟩ := h
  exact ⟨ps, Fs, pt, Ft, hs.below hk, ht.below hk, hd, h1, h2, below_then'' hb hk hb.size, hn⟩
theorem TwoR.left {f : Nat} {args : Array Value} {r : Value} (h : TwoR w0 bs bt s t N W) (hc : ∀ (p : SP) (F : Nat → Prop), SessAt W bs s p F → Calls Tryz.prog f args W fun e w' => e = .returned r ∧ Step bs F W w' s') :
    Calls Tryz.prog f args W fun e w' => e = .returned r ∧ TwoR w0 bs bt s' t N w' := by
  obtain ⟨ps, Fs, pt, Ft, hs, ht, hd, h1, h2, hb, hn⟩ := h
  refine (hc ps Fs hs).mono fun e w' ⟨he, k1, p1, q1⟩ => ⟨he, p1, Fresh Fs W w', pt, Ft, q1, ht.frame k1 fun k q q2 => hd k q2 q, ?_, ?_, h2, ?_, hn⟩
  · rintro k (q | q) q2
    · exact hd k q q2
    · have := (ht.blk k q2).2; omega
  · rintro k (q | q)
    · exact h1 k q
    · have := hb.size; omega
  · exact hb.trans (k1.below_of hb.size h1)
theorem TwoR.right {f : Nat} {args : Array Value} {r : Value} (h : TwoR w0 bs bt s t N W) (hc : ∀ (p : RP) (F : Nat → Prop), RefAt W bt t p F → p.left.length ≤ N → Calls Tryz.prog f args W fun e w' => e = .returned r ∧ ∃ L, RStep bt F L W w' t' ∧ L.length ≤ N') :
    Calls Tryz.prog f args W fun e w' => e = .returned r ∧ TwoR w0 bs bt s t' N' w' := by
  obtain ⟨ps, Fs, pt, Ft, hs, ht, hd, h1, h2, hb, hn⟩ := h
  refine (hc pt Ft ht hn).mono fun e w' ⟨he, L, ⟨k1, p1, q1, hl⟩, hL⟩ => ⟨he, ps, Fs, p1, Fresh Ft W w', hs.frame k1 hd, q1, ?_, h1, ?_, ?_, by rw [hl]; exact hL⟩
  · rintro k q (q2 | q2)
    · exact hd k q q2
    · have := (hs.blk k q).2; omega
  · rintro k (q | q)
    · exact h2 k q
    · have := hb.size; omega
  · exact hb.trans (k1.below_of hb.size h2)
theorem push_len (L c : Bs) : (pushR L c).1.length ≤ L.length + c.length := by
  have key : ∀ (ls : List Bs) (st : Bs × List Bs) (M : Nat), st.1.length ≤ M → (∀ x ∈ ls, x.length ≤ M) → (ls.foldl foldR st).1.length ≤ M := by
    intro ls
    induction ls with
    | nil => intro st M h _; exact h
    | cons x ls ih =>
      intro st M h hl
      rw [List.foldl_cons]
      refine ih _ M ?_ (fun y hy => hl y (by simp [hy]))
      unfold foldR
      split
      · exact h
      · exact hl x (by simp)
  unfold pushR
  have := (lines_count (L ++ c)).2
  rw [List.length_append] at this
  exact key _ _ _ (by simp) this
theorem TwoR.feedL (h : TwoR w0 bs bt s t N W) (G : Glob w0) (T : Nat) (hok : Ok s T) (c : Bs) (hT : T + 2 * c.length ≤ 1000000) :
    Calls Tryz.prog 14 #[.pointer (some ⟨bs, 0, none⟩), S c] W fun e w' => e = .returned (.tuple #[S (feedS s c).1, .bool (feedS s c).2.waits]) ∧ TwoR w0 bs bt (feedS s c).2 t N w' :=
  h.left fun p F hs => feed_calls W bs s p F hs (h.glob G) T hok c hT
theorem TwoR.feedT (h : TwoR w0 bs bt s t N W) (h8 : 8 ≤ w0.heap.size) (T : Nat) (hok : Ok t T) (c : Bs) (hT : T + 2 * c.length ≤ 1000000) (hN : N + c.length ≤ 1000000) :
    Calls Tryz.prog 15 #[.pointer (some ⟨bt, 0, none⟩), S c] W fun e w' => e = .returned (.tuple #[S (feedS t c).1, .bool (feedS t c).2.waits]) ∧ TwoR w0 bs bt s (feedS t c).2 (N + c.length) w' :=
  h.right fun p F ht hn => (feedR_calls W (by have := h.bel.size; omega) bt t p F ht T hok c hT (by omega)).mono fun e w' ⟨h1, h2⟩ => ⟨h1, _, h2, by have := push_len p.left c; omega⟩
theorem TwoR.answerL (h : TwoR w0 bs bt s t N W) (G : Glob w0) (x : Int) :
    Calls Tryz.prog 21 #[.pointer (some ⟨bs, 0, none⟩), .int .i64 x] W fun e w' => e = .returned (S (answerS s x).1) ∧ TwoR w0 bs bt (answerS s x).2 t N w' :=
  h.left fun p F hs => answer_calls W bs s p F hs (h.glob G) x
theorem TwoR.answerT (h : TwoR w0 bs bt s t N W) (h8 : 8 ≤ w0.heap.size) (x : Int) :
    Calls Tryz.prog 22 #[.pointer (some ⟨bt, 0, none⟩), .int .i64 x] W fun e w' => e = .returned (S (answerS t x).1) ∧ TwoR w0 bs bt s (answerS t x).2 N w' :=
  h.right fun p F ht hn => (answerR_calls W (by have := h.bel.size; omega) bt t p F ht x).mono fun e w' ⟨h1, h2⟩ => ⟨h1, _, h2, hn⟩
theorem TwoR.overL (h : TwoR w0 bs bt s t N W) : Calls Tryz.prog 16 #[.pointer (some ⟨bs, 0, none⟩)] W fun e w' => e = .returned (.bool s.over) ∧ w' = W := by
  obtain ⟨ps, Fs, pt, Ft, hs, ht, hd, h1, h2, hb, hn⟩ := h
  exact over_calls W bs s ps Fs hs
theorem TwoR.overT (h : TwoR w0 bs bt s t N W) : Calls Tryz.prog 17 #[.pointer (some ⟨bt, 0, none⟩)] W fun e w' => e = .returned (.bool t.over) ∧ w' = W := by
  obtain ⟨ps, Fs, pt, Ft, hs, ht, hd, h1, h2, hb, hn⟩ := h
  exact overR_calls W bt t pt Ft ht
/-- The message that waits, or none. -/
theorem TwoR.envL (h : TwoR w0 bs bt s t N W) (G : Glob w0) {T : Nat} (hok : Ok s T) :
    Calls Tryz.prog 19 #[.pointer (some ⟨bs, 0, none⟩)] W fun e w' => ∃ v, e = .returned (.agg #[S (mailE s).1, v, S (mailE s).2.2]) ∧ RowAt w' 9 v (strsV (mailE s).2.1) ∧ TwoR w0 bs bt s t N w' := by
  have GW := h.glob G
  cases hw : s.waits
  · have hE : mailE s = ([], [], []) := by unfold mailE; rw [hw]; rfl
    rw [hE]
    have H := h
    obtain ⟨ps, Fs, pt, Ft, hs, ht, hd, h1, h2, hb, hn⟩ := h
    exact (env_calls W bs s ps Fs hs GW hw).mono fun e w' ⟨h1, h2⟩ => ⟨_, h1, RowAt.nil _ _, H.below h2⟩
  · obtain ⟨y, hy⟩ := Option.ne_none_iff_exists'.1 (hok.inv.waits hw)
    obtain ⟨a, ha⟩ := Option.ne_none_iff_exists'.1 (hok.inv.body (by rw [hy]; simp))
    have hE : mailE s = (a, s.rcp, y) := by unfold mailE; rw [hw, ha, hy]; rfl
    rw [hE]
    obtain ⟨ps, Fs, pt, Ft, hs, ht, hd, h1, h2, hb, hn⟩ := h
    refine (env_waits W bs s ps Fs hs GW hw a y ha hy (by have := hok.rcp; omega)).mono ?_
    rintro e w' ⟨⟨v, he, hr, hv⟩, hs', hk⟩
    exact ⟨v, he, hr, ps, Fs, pt, Ft, hs', ht.frame hk fun k q q2 => hd k q2 q, hd, h1, h2, hb.trans (hk.below_of hb.size h1), hn⟩
theorem TwoR.envT (h : TwoR w0 bs bt s t N W) (h8 : 8 ≤ w0.heap.size) {T : Nat} (hok : Ok t T) :
    Calls Tryz.prog 20 #[.pointer (some ⟨bt, 0, none⟩)] W fun e w' => ∃ v, e = .returned (.agg #[S (mailE t).1, v, S (mailE t).2.2]) ∧ RowAt w' 9 v (strsV (mailE t).2.1) ∧ Below W.heap.size W w' := by
  have hW8 : 8 ≤ W.heap.size := by have := h.bel.size; omega
  obtain ⟨ps, Fs, pt, Ft, hs, ht, hd, h1, h2, hb, hn⟩ := h
  cases hw : t.waits
  · have hE : mailE t = ([], [], []) := by unfold mailE; rw [hw]; rfl
    rw [hE]
    exact (envR_calls W hW8 bt t pt Ft ht hw).mono fun e w' ⟨h1, h2⟩ => ⟨_, h1, RowAt.nil _ _, h2⟩
  · obtain ⟨y, hy⟩ := Option.ne_none_iff_exists'.1 (hok.inv.waits hw)
    obtain ⟨a, ha⟩ := Option.ne_none_iff_exists'.1 (hok.inv.body (by rw [hy]; simp))
    have hE : mailE t = (a, t.rcp, y) := by unfold mailE; rw [hw, ha, hy]; rfl
    rw [hE]
    refine (envR_waits W hW8 bt t pt Ft ht hw a y ha hy (by have := hok.rcp; omega)).mono ?_
    rintro e w' ⟨⟨v, he, hr, hv⟩, hb'⟩
    exact ⟨v, he, hr, hb'⟩
theorem TwoR.made {w1 w2 : World} {ps : SP} {pt : RP} (hs : SessAt w1 bs s ps (fun k => k = w0.heap.size ∨ k = w0.heap.size + 1)) (hb1 : Below w0.heap.size w0 w1) (ht : RefAt w2 bt t pt (fun k => k = w1.heap.size ∨ k = w1.heap.size + 1)) (hb2 : Below w1.heap.size w1 w2) (hl : pt.left = []) : TwoR w0 bs bt s t 0 w2 := by
  have z := (hs.blk _ (.inr rfl)).2
  refine ⟨ps, _, pt, _, hs.below hb2, ht, ?_, ?_, ?_, below_then' hb1 hb2, by rw [hl]; exact Nat.le_refl _⟩
  · rintro k (q | q) (q2 | q2) <;> omega
  · rintro k (q | q) <;> omega
  · rintro k (q | q) <;> omega
end
end Go.Proofs.YtapanjfheddfnaaGreatDoor
end
section
/- SmtpTells: the law's walk. -/
namespace Go.Proofs.YtapanjfheddfnaaGreatDoor
open Go.RowKit Go.Shelf
attribute [local go_sem high] ext_to ext_from
attribute [local go_sem] ext_list app_list size_list

theorem cellB3 {w w' : World} (h : Below w.heap.size w w') {q : Addr} {u : Value} (hq : w.cell? q = some u) : w'.cell? q = some u := (World.cell?_of_block (h.block q.block (World.block_lt_of_cell? _ q hq))).trans hq
set_option maxHeartbeats 8000000 in
set_option maxRecDepth 100000 in
theorem law3_calls (w : World) (G : Glob w) (m : Int) (v va : Value) (l : List Bs) (an : List Int) (hl : ReadsAt w v l) (ha : IntsAt w va an) (hn : l.length ≤ 2000000) (hs : sumL l ≤ 2000000) (han : an.length ≤ 2000000) :
    Calls Tryz.prog 3 #[.int .i64 m, v, va] w fun e w' => e = .returned (.bool true) ∧ Below w.heap.size w w' := by
  have HL := Lib.hid hl
  have HA := Lib.hid ha
  obtain ⟨a, c, rfl, hc⟩ := id hl
  obtain ⟨a2, c2, rfl, hc2⟩ := id ha
  clear hl ha hc hc2
  have h220 : Hid (replyL 220 = [50, 50, 48, 32, 112, 111, 117, 99, 104, 32, 114, 101, 97, 100, 121, 13, 10]) := by unfold Hid; decide +kernel
  go_enter Tryz.func3, Tryz.ntmps3
  go_wp2_with fail
  refine (small_calls w G).mono ?_
  rintro e w1 ⟨rfl, hb1⟩
  have HB1 := Lib.hid hb1
  have G1 := G.below' hb1
  have HL1 := Lib.hid (HL.out.below hb1)
  have HA1 := Lib.hid (HA.out.below hb1)
  clear hb1
  go_wp2_with fail
  refine (few_calls w1 _ l HL1.out hn hs).mono ?_
  rintro e w2 ⟨rfl, hw2⟩
  rw [hw2]
  clear hw2
  cases hf : fewL l
  · go_wp2
    go_ret
    exact ⟨rfl, HB1.out⟩
  · have hf2 : l.length ≤ 60 ∧ sumL l ≤ 6000 := by
      unfold fewL at hf
      simp only [Bool.and_eq_true, decide_eq_true_eq] at hf
      have e : l.take 100 = l := List.take_of_length_le (by omega)
      rw [e] at hf
      exact hf
    obtain ⟨h60, h6000⟩ := hf2
    clear hf
    have z18 := G1.sz
    go_wp2_with fail
    refine (new_calls w1 G1 m).mono ?_
    rintro e w2 ⟨rfl, hs1, hb2⟩
    have G2 := G1.below' hb2
    have HS1 := Lib.hid hs1
    have HB2 := Lib.hid hb2
    have z28 := G2.sz
    clear hs1 hb2
    go_wp2_with fail
    refine (newR_calls w2 z28 m).mono ?_
    rintro e w3 ⟨rfl, ht1, hb3⟩
    have HT3 : Hid (TwoR w1 (w1.heap.size + 1) (w2.heap.size + 1) (newS m) (newS m) 0 w3) := TwoR.made HS1.out HB2.out ht1 hb3 rfl
    have G3 := G2.below' hb3
    clear ht1 hb3 HS1 HB2
    go_wp2_with fail
    refine (greeting_calls w3 G3 _).mono ?_
    rw [h220.out]
    rintro e w4 ⟨rfl, hb4⟩
    have HT4 := Lib.hid (HT3.out.below hb4)
    clear hb4
    go_wp2_with fail
    refine (greetR_calls w4 _).mono ?_
    rw [h220.out]
    rintro e w5 ⟨rfl, hb5⟩
    have HT5 := Lib.hid (HT4.out.below hb5)
    clear hb5 HT4 HT3
    obtain ⟨bs, hbs⟩ : ∃ bs, w1.heap.size + 1 = bs := ⟨_, rfl⟩
    obtain ⟨bt, hbt⟩ : ∃ bt, w2.heap.size + 1 = bt := ⟨_, rfl⟩
    rw [hbs, hbt] at HT5
    rw [hbs, hbt]
    clear hbs hbt G3 G2
    go_wp2_with fail
    go_loopg [10, 11] l.length (fun g v10 v11 wx => ∃ (i kk : Nat) (s : Sess), i + g = l.length ∧ kk ≤ i ∧ v10 = .int .i64 kk ∧ v11 = .int .i64 i ∧ Ok s (2 * sumL (l.take i)) ∧ TwoR w1 bs bt s s (sumL (l.take i)) wx)
    case atStart => exact ⟨0, 0, newS m, by omega, Nat.le_refl _, rfl, rfl, new_ok m, HT5.out⟩
    case round =>
      obtain ⟨i, kk, s, hig, hki, rfl, rfl, hok, htw⟩ := hrel
      have HTW := Lib.hid htw
      have HOK := Lib.hid hok
      clear hok htw HT5
      cases gk with
      | zero =>
        have d : decide ((i : Int) < (l.length : Int)) = false := by simp; omega
        go_wp2
        go_ret
        exact ⟨rfl, below_then' HB1.out HTW.out.bel⟩
      | succ g =>
        have hi : i < l.length := by omega
        have d : decide ((i : Int) < (l.length : Int)) = true := by simp; omega
        have hi0 : (0 : Int) ≤ (i : Int) := by omega
        have hil : (i : Int) < (l.length : Int) := by omega
        obtain ⟨x, hx⟩ : ∃ x, l[i]? = some x := ⟨l[i], List.getElem?_eq_getElem hi⟩
        have hcw := HL1.out.below HTW.out.bel
        obtain ⟨ka, off, rfl, hcx1⟩ : ∃ k off, a = some ⟨k, off, none⟩ ∧ w1.cell? ⟨k, off + i, none⟩ = some (S x) := by
          obtain ⟨a', c', e, hr⟩ := HL1.out
          cases e
          obtain ⟨k, off, e2, hr⟩ := hr (by intro e; rw [e] at hi; simp at hi)
          exact ⟨k, off, e2, hr i x hx⟩
        have hcx : wr.cell? ⟨ka, off + i, none⟩ = some (S x) := cellB3 HTW.out.bel hcx1
        have hsum := sumL_take_succ l i x hx
        have htot := sumL_take_le l (i + 1)
        have HCX1 := Lib.hid hcx1
        have hxl : x.length ≤ 6000 := by omega
        have hjw : IntKind.i64.wrap ((i : Int) + 1) = ((i + 1 : Nat) : Int) := by rw [IntWalk.i64_in _ ⟨by omega, by omega⟩]; omega
        have hkw : IntKind.i64.wrap ((kk : Int) + 1) = ((kk + 1 : Nat) : Int) := by rw [IntWalk.i64_in _ ⟨by omega, by omega⟩]; omega
        obtain ⟨f, hfe⟩ : ∃ f, feedS s x = f := ⟨_, rfl⟩
        have hok2 := feed_ok HOK.out x
        rw [hfe] at hok2
        have HOK2 := Lib.hid hok2
        have HFE := Lib.hid hfe
        clear hok2 hfe hcx1 hcw hx
        go_wp2_with fail
        refine (HTW.out.feedL G1 _ HOK.out x (by omega)).mono ?_
        rw [HFE.out]
        rintro e w6 ⟨rfl, ht6⟩
        have hcx6 : w6.cell? ⟨ka, off + i, none⟩ = some (S x) := cellB3 ht6.bel HCX1.out
        have HT6 := Lib.hid ht6
        clear ht6
        go_wp2_with fail
        refine (HT6.out.feedT z18 _ HOK.out x (by omega) (by omega)).mono ?_
        rw [HFE.out]
        rintro e w7 ⟨rfl, ht7⟩
        have HT7 := Lib.hid ht7
        clear ht7 HT6 hcx6
        go_wp2_with fail
        refine (HT7.out.overL).mono ?_
        rintro e w8 ⟨rfl, hw8⟩
        rw [hw8]
        clear hw8
        go_wp2_with fail
        refine (HT7.out.overT).mono ?_
        rintro e w8 ⟨rfl, hw8⟩
        rw [hw8]
        clear hw8
        go_wp2_with fail
        refine (HT7.out.envL G1 HOK2.out).mono ?_
        rintro e w8 ⟨v1, rfl, hr1, ht8⟩
        have HR1 := Lib.hid hr1
        have HT8 := Lib.hid ht8
        clear hr1 ht8
        go_wp2_with fail
        refine (HT8.out.envT z18 HOK2.out).mono ?_
        rintro e w9 ⟨v2, rfl, hr2, hb9⟩
        have HR2 := Lib.hid hr2
        have HT9 := Lib.hid (HT8.out.below hb9)
        have HR19 : Hid (RowAt w9 9 v1 (strsV (mailE f.2).2.1)) := HR1.out.heap fun k q => hb9.block k (HR1.out.lt k q).2
        clear hr2 hb9 HT8 HT7 HR1
        go_wp2_with fail
        refine (same_calls w9 (by have := HT9.out.bel.size; omega) (mailE f.2) (mailE f.2) v1 v2 HR19.out HR2.out).mono ?_
        rw [show decide (mailE f.2 = mailE f.2) = true from decide_eq_true rfl]
        rintro e w10 ⟨rfl, hb10⟩
        have HT10 := Lib.hid (HT9.out.below hb10)
        clear hb10 HT9 HR19 HR2
        have hTT : 2 * sumL (l.take (i + 1)) = 2 * sumL (l.take i) + 2 * x.length := by omega
        have hNN : sumL (l.take (i + 1)) = sumL (l.take i) + x.length := hsum
        cases hwt : f.2.waits
        · have HWT := Lib.hid hwt
          clear hwt
          go_wp2
          go_roundg g
          case measure => omega
          case rel => exact ⟨i + 1, kk, f.2, by omega, by omega, rfl, by simp, by rw [hTT]; exact HOK2.out, by rw [hNN]; exact HT10.out⟩
        · have HWT := Lib.hid hwt
          clear hwt
          by_cases hka : kk < an.length
          · have dk : decide ((kk : Int) < (an.length : Int)) = true := by simp; omega
            have hk0 : (0 : Int) ≤ (kk : Int) := by omega
            have hkl : (kk : Int) < (an.length : Int) := by omega
            obtain ⟨ex, hex⟩ : ∃ ex, an[kk]? = some ex := ⟨an[kk], List.getElem?_eq_getElem hka⟩
            obtain ⟨k2, off2, rfl, hca1⟩ : ∃ k off, a2 = some ⟨k, off, none⟩ ∧ w1.cell? ⟨k, off + kk, none⟩ = some (.int .i64 ex) := by
              obtain ⟨a', c', e, hr⟩ := HA1.out
              cases e
              obtain ⟨k, off, e2, hr⟩ := hr (by intro e; rw [e] at hka; simp at hka)
              exact ⟨k, off, e2, hr kk ex hex⟩
            have hca : w10.drew.cell? ⟨k2, off2 + kk, none⟩ = some (.int .i64 ex) := cellB3 HT10.out.bel hca1
            have HCA1 := Lib.hid hca1
            have HTD := Lib.hid (HT10.out.below ((Below.refl _ _).drew))
            obtain ⟨q, hq⟩ : ∃ q, answerS f.2 ex = q := ⟨_, rfl⟩
            have hq2 : answerS q.2 0 = ([], q.2) := by
              rw [← hq]
              unfold answerS
              rw [HWT.out]
              rfl
            have hokq := answer_ok HOK2.out ex
            rw [hq] at hokq
            have HQ := Lib.hid hq
            have HQ2 := Lib.hid hq2
            have HOKQ := Lib.hid hokq
            clear hca1 hex hka hq hq2 hokq
            go_wp2_with fail
            go_region_held3 (fun w' => w'.cell? ⟨k2, off2 + kk, none⟩ = some (.int .i64 ex)) (first | assumption | exact hca)
              (first | (go_at_call 22; refine (HTA.out.answerT z18 ex).mono ?_; rw [HQ.out]; rintro e wB ⟨rfl, htB⟩; have hcB := cellB3 htB.bel HCA1.out; have HTB := Lib.hid htB; clear htB) | (go_at_call 21; refine (HTB.out.answerL G1 0).mono ?_; rw [HQ2.out]; rintro e wC ⟨rfl, htC⟩; have hcC := cellB3 htC.bel HCA1.out; have HTC := Lib.hid htC; clear htC) | (go_at_call 21; refine (HTD.out.answerL G1 ex).mono ?_; rw [HQ.out]; rintro e wA ⟨rfl, htA⟩; have hcA := cellB3 htA.bel HCA1.out; have HTA := Lib.hid htA; clear htA))
            go_wp2
            go_roundg g
            case measure => omega
            case rel => exact ⟨i + 1, kk + 1, q.2, by omega, by omega, by simp, by simp, by rw [hTT]; exact HOKQ.out, by rw [hNN]; exact HTC.out⟩
          · have dk : decide ((kk : Int) < (an.length : Int)) = false := by simp; omega
            go_wp2
            go_roundg g
            case measure => omega
            case rel => exact ⟨i + 1, kk, f.2, by omega, by omega, rfl, by simp, by rw [hTT]; exact HOK2.out, by rw [hNN]; exact HT10.out⟩
end Go.Proofs.YtapanjfheddfnaaGreatDoor
end
