/- The contracts of package smtp's replies. -/
import Derived.Test.YtapanjfheddfnaaGreatDoorStr2
namespace Go.Proofs.YtapanjfheddfnaaGreatDoor
open Go.RowKit
attribute [local go_sem high] ext_to ext_from
attribute [local go_sem] ext_list app_list size_list

def saidEntries : Array MapEntry := #[{ key := .int .i64 220, val := .string ⟨#[112, 111, 117, 99, 104, 32, 114, 101, 97, 100, 121]⟩, born := 0 }, { key := .int .i64 221, val := .string ⟨#[66, 121, 101]⟩, born := 1 }, { key := .int .i64 250, val := .string ⟨#[79, 75]⟩, born := 2 }, { key := .int .i64 252, val := .string ⟨#[67, 97, 110, 110, 111, 116, 32, 118, 101, 114, 105, 102, 121, 32, 117, 115, 101, 114]⟩, born := 3 }, { key := .int .i64 354, val := .string ⟨#[83, 116, 97, 114, 116, 32, 109, 97, 105, 108, 32, 105, 110, 112, 117, 116]⟩, born := 4 }, { key := .int .i64 451, val := .string ⟨#[76, 111, 99, 97, 108, 32, 101, 114, 114, 111, 114]⟩, born := 5 }, { key := .int .i64 452, val := .string ⟨#[73, 110, 115, 117, 102, 102, 105, 99, 105, 101, 110, 116, 32, 115, 116, 111, 114, 97, 103, 101]⟩, born := 6 }, { key := .int .i64 500, val := .string ⟨#[83, 121, 110, 116, 97, 120, 32, 101, 114, 114, 111, 114]⟩, born := 7 }, { key := .int .i64 501, val := .string ⟨#[83, 121, 110, 116, 97, 120, 32, 101, 114, 114, 111, 114, 32, 105, 110, 32, 112, 97, 114, 97, 109, 101, 116, 101, 114, 115]⟩, born := 8 }, { key := .int .i64 503, val := .string ⟨#[66, 97, 100, 32, 115, 101, 113, 117, 101, 110, 99, 101, 32, 111, 102, 32, 99, 111, 109, 109, 97, 110, 100, 115]⟩, born := 9 }, { key := .int .i64 552, val := .string ⟨#[77, 101, 115, 115, 97, 103, 101, 32, 115, 105, 122, 101, 32, 101, 120, 99, 101, 101, 100, 115, 32, 108, 105, 109, 105, 116]⟩, born := 10 }, { key := .int .i64 554, val := .string ⟨#[84, 114, 97, 110, 115, 97, 99, 116, 105, 111, 110, 32, 102, 97, 105, 108, 101, 100]⟩, born := 11 }]

set_option maxRecDepth 100000 in
set_option maxHeartbeats 1000000 in
theorem said_calls (w : World) : Calls Tryz.prog 53 #[] w fun e w' => e = .returned (.map (some w.heap.size)) ∧ w' = w.alloc (.map saidEntries 12) := by
  have hmm := @run_makeMap Tryz.prog
  go_enter Tryz.func53, Tryz.ntmps53
  go_wp2_with (refine wpList_insert_last _ (by rfl) _ _ _ _ (by rfl) 3 9 Tryz.underlying85 _ Tryz.underlying3 (Or.inl ⟨_, rfl⟩) _ _ _ _ (by rfl) (by rfl) (by rfl) (by rfl) ?_)
  go_ret
  exact ⟨rfl, rfl⟩

theorem reply_calls (c : Int) (h0 : 0 ≤ c) (h1 : c ≤ 1000) (i : Nat) (hf : Instr.findNow (.int .i64) (.int .i64 c) saidEntries.toList 0 = some (some (i, S (sayL c)))) (hrl : ((Lib.itoa c).length : Int) ≤ 30) (hyl : ((sayL c).length : Int) ≤ 100) (w : World) (G : Glob w) :
    Calls Tryz.prog 33 #[.int .i64 c] w fun e w' => e = .returned (S (replyL c)) ∧ Below w.heap.size w w' := by
  have HF := Lib.hid hf
  clear hf
  obtain ⟨r, hr⟩ : ∃ r, Lib.itoa c = r := ⟨_, rfl⟩
  obtain ⟨y, hy⟩ : ∃ y, sayL c = y := ⟨_, rfl⟩
  have HR : Hid (Lib.itoa c = r) := hr
  have HY : Hid (sayL c = y) := hy
  have HW : Hid (replyL c = r ++ [32] ++ y ++ [13, 10]) := by unfold Hid replyL; rw [hr, hy]
  rw [hr] at hrl
  rw [hy] at hyl HF
  clear hr hy
  go_enter Tryz.func33, Tryz.ntmps33
  go_wp2_with fail
  refine (text_calls c (by omega) (by omega) _ G).mono ?_
  rw [HR.out]
  rintro e w1 ⟨rfl, hb1⟩
  go_wp2_with fail
  refine (said_calls _).mono ?_
  rintro e w2 ⟨rfl, rfl⟩
  have hb : (w1.alloc (.map saidEntries 12)).heap[w1.heap.size]? = some (.map saidEntries 12) := by show (w1.heap.push _)[w1.heap.size]? = _; simp
  have hlk := run_lookup_known (P := Tryz.prog) (t := 85) Tryz.underlying85 Tryz.underlying3 (Or.inl ⟨_, rfl⟩) hb _ HF.out
  clear hb
  go_wp2
  go_ret
  rw [HW.out]
  exact ⟨ret_str (by simp), hb1.alloc hb1.size _⟩
theorem reply_220 (w : World) (G : Glob w) : Calls Tryz.prog 33 #[.int .i64 220] w fun e w' => e = .returned (S (replyL 220)) ∧ Below w.heap.size w w' :=
  reply_calls 220 (by decide) (by decide) 0 rfl (by decide +kernel) (by decide) w G
theorem reply_221 (w : World) (G : Glob w) : Calls Tryz.prog 33 #[.int .i64 221] w fun e w' => e = .returned (S (replyL 221)) ∧ Below w.heap.size w w' :=
  reply_calls 221 (by decide) (by decide) 1 rfl (by decide +kernel) (by decide) w G
theorem reply_250 (w : World) (G : Glob w) : Calls Tryz.prog 33 #[.int .i64 250] w fun e w' => e = .returned (S (replyL 250)) ∧ Below w.heap.size w w' :=
  reply_calls 250 (by decide) (by decide) 2 rfl (by decide +kernel) (by decide) w G
theorem reply_252 (w : World) (G : Glob w) : Calls Tryz.prog 33 #[.int .i64 252] w fun e w' => e = .returned (S (replyL 252)) ∧ Below w.heap.size w w' :=
  reply_calls 252 (by decide) (by decide) 3 rfl (by decide +kernel) (by decide) w G
theorem reply_354 (w : World) (G : Glob w) : Calls Tryz.prog 33 #[.int .i64 354] w fun e w' => e = .returned (S (replyL 354)) ∧ Below w.heap.size w w' :=
  reply_calls 354 (by decide) (by decide) 4 rfl (by decide +kernel) (by decide) w G
theorem reply_451 (w : World) (G : Glob w) : Calls Tryz.prog 33 #[.int .i64 451] w fun e w' => e = .returned (S (replyL 451)) ∧ Below w.heap.size w w' :=
  reply_calls 451 (by decide) (by decide) 5 rfl (by decide +kernel) (by decide) w G
theorem reply_452 (w : World) (G : Glob w) : Calls Tryz.prog 33 #[.int .i64 452] w fun e w' => e = .returned (S (replyL 452)) ∧ Below w.heap.size w w' :=
  reply_calls 452 (by decide) (by decide) 6 rfl (by decide +kernel) (by decide) w G
theorem reply_500 (w : World) (G : Glob w) : Calls Tryz.prog 33 #[.int .i64 500] w fun e w' => e = .returned (S (replyL 500)) ∧ Below w.heap.size w w' :=
  reply_calls 500 (by decide) (by decide) 7 rfl (by decide +kernel) (by decide) w G
theorem reply_501 (w : World) (G : Glob w) : Calls Tryz.prog 33 #[.int .i64 501] w fun e w' => e = .returned (S (replyL 501)) ∧ Below w.heap.size w w' :=
  reply_calls 501 (by decide) (by decide) 8 rfl (by decide +kernel) (by decide) w G
theorem reply_503 (w : World) (G : Glob w) : Calls Tryz.prog 33 #[.int .i64 503] w fun e w' => e = .returned (S (replyL 503)) ∧ Below w.heap.size w w' :=
  reply_calls 503 (by decide) (by decide) 9 rfl (by decide +kernel) (by decide) w G
theorem reply_552 (w : World) (G : Glob w) : Calls Tryz.prog 33 #[.int .i64 552] w fun e w' => e = .returned (S (replyL 552)) ∧ Below w.heap.size w w' :=
  reply_calls 552 (by decide) (by decide) 10 rfl (by decide +kernel) (by decide) w G
theorem reply_554 (w : World) (G : Glob w) : Calls Tryz.prog 33 #[.int .i64 554] w fun e w' => e = .returned (S (replyL 554)) ∧ Below w.heap.size w w' :=
  reply_calls 554 (by decide) (by decide) 11 rfl (by decide +kernel) (by decide) w G
end Go.Proofs.YtapanjfheddfnaaGreatDoor
example : Go.Proofs.YtapanjfheddfnaaGreatDoor.replyL 250 = [50, 53, 48, 32, 79, 75, 13, 10] := by decide +kernel
