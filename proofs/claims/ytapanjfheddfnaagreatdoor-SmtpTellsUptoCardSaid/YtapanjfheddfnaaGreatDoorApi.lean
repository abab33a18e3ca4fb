/- New, Greeting, Over, Mail, Answer. -/
import Derived.Test.YtapanjfheddfnaaGreatDoorCmds2
namespace Go.Proofs.YtapanjfheddfnaaGreatDoor
open Go.RowKit Go.Shelf
attribute [local go_sem high] ext_to ext_from
attribute [local go_sem] ext_list app_list size_list

set_option maxRecDepth 100000 in
theorem greeting_calls (w : World) (G : Glob w) (v : Value) : Calls Tryz.prog 12 #[v] w fun e w' => e = .returned (S (replyL 220)) ∧ Below w.heap.size w w' := by
  go_enter Tryz.func12, Tryz.ntmps12
  go_wp2_with fail
  refine (reply_220 _ G).mono ?_
  rintro e w3 ⟨rfl, hb3⟩
  go_wp2
  go_ret
  exact ⟨rfl, hb3⟩
set_option maxRecDepth 100000 in
theorem over_calls (w : World) (b : Nat) (s : Sess) (p : SP) (F : Nat → Prop) (h : SessAt w b s p F) : Calls Tryz.prog 16 #[.pointer (some ⟨b, 0, none⟩)] w fun e w' => e = .returned (.bool s.over) ∧ w' = w := by
  have c9 : w.cell? ⟨b, 9, none⟩ = some (.bool s.over) := h.cell 9
  go_enter Tryz.func16, Tryz.ntmps16
  go_wp2
  go_ret
  exact ⟨rfl, rfl⟩
def mostL (m : Int) : Nat := (min (max m 1) 65536).toNat
def newS (m : Int) : Sess := { most := mostL m }
theorem ret_i64 {a b : Int} (h : a = b) : Ending.returned (.int .i64 a) = .returned (.int .i64 b) := by rw [h]
set_option maxRecDepth 100000 in
theorem clamp_calls (w : World) (m : Int) : Calls Tryz.prog 30 #[.int .i64 m, .int .i64 1, .int .i64 65536] w fun e w' => e = .returned (.int .i64 (mostL m)) ∧ w' = w := by
  have hm : ((mostL m : Nat) : Int) = min (max m 1) 65536 := by unfold mostL; omega
  rw [hm]
  go_enter Tryz.func30, Tryz.ntmps30
  go_wp2
  all_goals (go_ret; exact ⟨ret_i64 (by omega), rfl⟩)
set_option maxRecDepth 100000 in
theorem linesNew_calls (w : World) : Calls Tryz.prog 31 #[.int .i64 1000] w fun e w' => e = .returned (.pointer (some ⟨w.heap.size, 0, none⟩)) ∧ w' = w.alloc (.cells #[.int .i64 1000, .slice none 0 0] 82) := by
  go_enter Tryz.func31, Tryz.ntmps31
  go_wp2
  go_ret
  exact ⟨rfl, rfl⟩
def newP (n : Nat) : SP := { fb := n, rv := .slice none 0 0, kv := .slice none 0 0, sv := .pointer none, tv := .slice none 0 0, bv := .pointer none, yv := .slice none 0 0 }
theorem new_at (w : World) (h8 : 8 ≤ w.heap.size) (m : Int) : SessAt ((w.alloc (.cells #[.int .i64 1000, .slice none 0 0] 82)).alloc (.cells (cellsOf (newS m) (newP w.heap.size)) 62)) (w.heap.size + 1) (newS m) (newP w.heap.size) (fun k => k = w.heap.size ∨ k = w.heap.size + 1) := by
  have e1 : ((w.alloc (.cells #[.int .i64 1000, .slice none 0 0] 82)).alloc (.cells (cellsOf (newS m) (newP w.heap.size)) 62)).heap[w.heap.size + 1]? = some (.cells (cellsOf (newS m) (newP w.heap.size)) 62 (0, 0)) := by
    have := heap_alloc_new (w.alloc (.cells #[.int .i64 1000, .slice none 0 0] 82)) (.cells (cellsOf (newS m) (newP w.heap.size)) 62)
    rwa [World.size_alloc] at this
  have e2 : ((w.alloc (.cells #[.int .i64 1000, .slice none 0 0] 82)).alloc (.cells (cellsOf (newS m) (newP w.heap.size)) 62)).heap[w.heap.size]? = some (.cells #[.int .i64 1000, .slice none 0 0] 82 (0, 0)) := by
    rw [Below.heap_alloc _ _ _ (by simp)]; exact heap_alloc_new _ _
  refine ⟨fun k q => ?_, fun k q => ?_, e1, e2, .inl ⟨rfl, rfl⟩, .inl ⟨rfl, rfl⟩, .inl ⟨rfl, rfl⟩, rfl, ⟨rfl, rfl⟩, ⟨fun k q => (by cases q), fun k q => (by cases q), fun k q => (by cases q), fun k q => (by cases q)⟩⟩
  · rcases q with q | q | q | q | q | q | q | q
    · exact .inr q
    · exact .inl q
    all_goals cases q
  · simp only [World.size_alloc]
    omega
set_option maxRecDepth 100000 in
theorem new_calls (w : World) (G : Glob w) (m : Int) : Calls Tryz.prog 10 #[.int .i64 m] w fun e w' => e = .returned (.pointer (some ⟨w.heap.size + 1, 0, none⟩)) ∧ SessAt w' (w.heap.size + 1) (newS m) (newP w.heap.size) (fun k => k = w.heap.size ∨ k = w.heap.size + 1) ∧ Below w.heap.size w w' := by
  go_enter Tryz.func10, Tryz.ntmps10
  go_wp2_with (first | (go_at_call 30; refine (clamp_calls _ m).mono ?_; rintro e w' ⟨rfl, hw⟩; rw [hw]) | (go_at_call 31; refine (linesNew_calls _).mono ?_; rintro e w' ⟨rfl, hw2⟩; rw [hw2]))
  go_ret
  refine ⟨?_, new_at w G.sz m, ((Below.refl _ w).alloc (Nat.le_refl _) _).alloc (by simp) _⟩
  simp

/-! ### Answer -/
def answerC (e : Int) : Int := if e = 0 then 250 else if e = 16 then 552 else if e = 3 then 452 else if e = 13 ∨ e = 14 ∨ e = 22 then 451 else 554
def doneS (s : Sess) : Sess := resetS { s with waits := false, body := none }
def answerS (s : Sess) (e : Int) : Bs × Sess := if s.waits then (replyL (answerC e), doneS s) else ([], s)
set_option maxHeartbeats 4000000 in
set_option maxRecDepth 100000 in
theorem answer_calls (w : World) (b : Nat) (s : Sess) (p : SP) (F : Nat → Prop) (h : SessAt w b s p F) (G : Glob w) (x : Int) :
    Calls Tryz.prog 21 #[.pointer (some ⟨b, 0, none⟩), .int .i64 x] w fun e w' => e = .returned (S (answerS s x).1) ∧ Step b F w w' (answerS s x).2 := by
  have H := Lib.hid h
  have c8 : w.cell? ⟨b, 8, none⟩ = some (.bool s.waits) := h.cell 8
  have f8 := h.frozen 8
  have f6 := h.frozen 6
  have c6 : w.cell? ⟨b, 6, none⟩ = some p.bv := h.cell 6
  cases hw : s.waits
  · have HE : Hid (answerS s x = ([], s)) := by unfold Hid answerS; rw [hw]; rfl
    rw [HE.out]
    clear HE
    rw [hw] at c8
    go_enter Tryz.func21, Tryz.ntmps21
    go_wp2
    go_ret
    exact ⟨rfl, Step.same H.out (Kept.refl _ _) G.sz⟩
  · have HE : Hid (answerS s x = (replyL (answerC x), doneS s)) := by unfold Hid answerS; rw [hw]; rfl
    rw [HE.out]
    clear HE
    rw [hw] at c8
    have h1 := (h.flag 8 (.bool false) { s with waits := false } rfl rfl rfl rfl rfl rfl).noBody
    have HN := Lib.hid h1
    obtain ⟨p2, h2⟩ := reset_done h1
    have hk2 : Kept F w ((((w.setCell ⟨b, 8, none⟩ (.bool false)).setCell ⟨b, 6, none⟩ (.pointer none)).setCell ⟨b, 4, none⟩ (.pointer none)).setCell ⟨b, 5, none⟩ (.slice none 0 0)) := h.k4 (h.k4 (h.k4 (h.k4 (Kept.refl _ _) 8 _) 6 _) 4 _) 5 _
    have H2 := Lib.hid h2
    have HK := Lib.hid hk2
    clear h1 h2 hk2
    go_enter Tryz.func21, Tryz.ntmps21
    go_wp2_with fail
    refine (reset_calls _ b _ _ F HN.out).mono ?_
    rintro e w1 ⟨rfl, rfl⟩
    obtain ⟨w2, hw2⟩ : ∃ w2, (((w.setCell ⟨b, 8, none⟩ (.bool false)).setCell ⟨b, 6, none⟩ (.pointer none)).setCell ⟨b, 4, none⟩ (.pointer none)).setCell ⟨b, 5, none⟩ (.slice none 0 0) = w2 := ⟨_, rfl⟩
    rw [hw2] at H2 HK ⊢
    clear hw2
    have G2 := H.out.glob G HK.out
    by_cases q0 : x = 0
    · have hc : answerC x = 250 := by rw [q0]; rfl
      have d0 : (x == 0) = true := by simpa using q0
      clear q0
      go_wp2_with fail
      refine (reply_250 _ G2).mono ?_
      rintro e w3 ⟨rfl, hb3⟩
      go_wp2
      go_ret
      rw [hc]
      exact ⟨rfl, (Step.same H2.out HK.out G.sz).below hb3 G2.sz⟩
    by_cases q1 : x = 16
    · have hc : answerC x = 552 := by rw [q1]; rfl
      have d0 : (x == 0) = false := by simpa using q0
      have d1 : (x == 16) = true := by simpa using q1
      clear q0 q1
      go_wp2_with fail
      refine (reply_552 _ G2).mono ?_
      rintro e w3 ⟨rfl, hb3⟩
      go_wp2
      go_ret
      rw [hc]
      exact ⟨rfl, (Step.same H2.out HK.out G.sz).below hb3 G2.sz⟩
    by_cases q2 : x = 3
    · have hc : answerC x = 452 := by rw [q2]; rfl
      have d0 : (x == 0) = false := by simpa using q0
      have d1 : (x == 16) = false := by simpa using q1
      have d2 : (x == 3) = true := by simpa using q2
      clear q0 q1 q2
      go_wp2_with fail
      refine (reply_452 _ G2).mono ?_
      rintro e w3 ⟨rfl, hb3⟩
      go_wp2
      go_ret
      rw [hc]
      exact ⟨rfl, (Step.same H2.out HK.out G.sz).below hb3 G2.sz⟩
    by_cases q3 : x = 13
    · have hc : answerC x = 451 := by rw [q3]; rfl
      have d0 : (x == 0) = false := by simpa using q0
      have d1 : (x == 16) = false := by simpa using q1
      have d2 : (x == 3) = false := by simpa using q2
      have d3 : (x == 13) = true := by simpa using q3
      clear q0 q1 q2 q3
      go_wp2_with fail
      refine (reply_451 _ G2).mono ?_
      rintro e w3 ⟨rfl, hb3⟩
      go_wp2
      go_ret
      rw [hc]
      exact ⟨rfl, (Step.same H2.out HK.out G.sz).below hb3 G2.sz⟩
    by_cases q4 : x = 14
    · have hc : answerC x = 451 := by rw [q4]; rfl
      have d0 : (x == 0) = false := by simpa using q0
      have d1 : (x == 16) = false := by simpa using q1
      have d2 : (x == 3) = false := by simpa using q2
      have d3 : (x == 13) = false := by simpa using q3
      have d4 : (x == 14) = true := by simpa using q4
      clear q0 q1 q2 q3 q4
      go_wp2_with fail
      refine (reply_451 _ G2).mono ?_
      rintro e w3 ⟨rfl, hb3⟩
      go_wp2
      go_ret
      rw [hc]
      exact ⟨rfl, (Step.same H2.out HK.out G.sz).below hb3 G2.sz⟩
    by_cases q5 : x = 22
    · have hc : answerC x = 451 := by rw [q5]; rfl
      have d0 : (x == 0) = false := by simpa using q0
      have d1 : (x == 16) = false := by simpa using q1
      have d2 : (x == 3) = false := by simpa using q2
      have d3 : (x == 13) = false := by simpa using q3
      have d4 : (x == 14) = false := by simpa using q4
      have d5 : (x == 22) = true := by simpa using q5
      clear q0 q1 q2 q3 q4 q5
      go_wp2_with fail
      refine (reply_451 _ G2).mono ?_
      rintro e w3 ⟨rfl, hb3⟩
      go_wp2
      go_ret
      rw [hc]
      exact ⟨rfl, (Step.same H2.out HK.out G.sz).below hb3 G2.sz⟩
    have hc : answerC x = 554 := by unfold answerC; rw [if_neg q0, if_neg q1, if_neg q2, if_neg (by omega)]
    have d0 : (x == 0) = false := by simpa using q0
    have d1 : (x == 16) = false := by simpa using q1
    have d2 : (x == 3) = false := by simpa using q2
    have d3 : (x == 13) = false := by simpa using q3
    have d4 : (x == 14) = false := by simpa using q4
    have d5 : (x == 22) = false := by simpa using q5
    clear q0 q1 q2 q3 q4 q5
    go_wp2_with fail
    refine (reply_554 _ G2).mono ?_
    rintro e w3 ⟨rfl, hb3⟩
    go_wp2
    go_ret
    rw [hc]
    exact ⟨rfl, (Step.same H2.out HK.out G.sz).below hb3 G2.sz⟩
end Go.Proofs.YtapanjfheddfnaaGreatDoor
