/- The contract of small. -/
import Derived.Test.YtapanjfheddfnaaGreatDoorSmall
import Derived.Test.YtapanjfheddfnaaGreatDoorInR
namespace Go.Proofs.YtapanjfheddfnaaGreatDoor
open Go.RowKit Go.Shelf
attribute [local go_sem high] ext_to ext_from
attribute [local go_sem] ext_list app_list size_list

theorem InR.below {F0 : Nat → Prop} {w0 W W' : World} {b : Nat} {s : Sess} {vm : Value} {ms : List Mail} (h : InR F0 w0 b s vm ms W) (hb : Below W.heap.size W W') : InR F0 w0 b s vm ms W' := by
  obtain ⟨p, F, M, hs, hm, hd, hF, hM, hk⟩ := h
  exact ⟨p, F, M, hs.below hb, hm.below hb, hd, hF, hM, hk.trans (Kept.of_below hb)⟩
theorem InR.fresh {w w1 : World} {s : Sess} {b : Nat} {p : SP} (hse : SessAt w1 b s p (fun k => k = w.heap.size ∨ k = w.heap.size + 1)) (hb1 : Below w.heap.size w w1) : InR NoBlk w b s (.slice none 0 0) [] w1 :=
  ⟨_, _, _, hse, MailsAt.nil w1, fun _ _ q => q, fun k q => by rcases q with q | q <;> exact .inr (by omega), fun _ q => q.elim, Kept.of_below hb1⟩
theorem below_then'' {B : Nat} {w w1 w2 : World} (h : Below B w w1) (k : Below w1.heap.size w1 w2) (hB : B ≤ w1.heap.size) : Below B w w2 := h.trans (k.mono hB)
theorem InR.toBelow {w W : World} {s : Sess} {b : Nat} {vm : Value} {ms : List Mail} (h : InR NoBlk w b s vm ms W) : Below w.heap.size w W := by
  obtain ⟨p, F, M, _, _, _, _, _, hk⟩ := h
  exact hk.below fun k q => q.elim
/-- The session alone, seen from the world at hand. -/
theorem InRv.rebase {F0 : Nat → Prop} {w0 W W' : World} {b : Nat} {s : Sess} {vm v2 : Value} {ms : List Mail} {l : List Bs} (h : InRv F0 w0 b s vm ms v2 l W) (hb : Below W.heap.size W W') :
    ∃ F : Nat → Prop, InR F W' b s (.slice none 0 0) [] W' ∧ (∀ k, F k → F0 k ∨ w0.heap.size ≤ k) ∧ (∀ k, F k → k < W.heap.size) ∧ (∀ k, F k → 8 ≤ k) ∧ Kept F0 w0 W' ∧ RowAt W' 9 v2 (strsV l) ∧ (∀ k, v2.ownBlock = some k → ¬ F k) := by
  obtain ⟨p, F, M, hs, hm, hd, hF, hM, hk, hr, hv⟩ := h
  exact ⟨F, ⟨p, F, _, hs.below hb, MailsAt.nil W', fun _ _ q => q, fun k q => .inl q, fun _ q => q.elim, Kept.refl _ _⟩, hF, fun k q => (hs.blk k q).2, fun k q => (hs.blk k q).1, hk.trans (Kept.of_below hb), hr.heap fun k q => hb.block k (hr.lt k q).2, fun k q => (hv k q).1⟩

set_option maxHeartbeats 8000000 in
set_option maxRecDepth 100000 in
theorem small_calls (w : World) (G : Glob w) : Calls Tryz.prog 8 #[] w fun e w' => e = .returned (.bool true) ∧ Below w.heap.size w w' := by
  have h08 : ∀ k, NoBlk k → 8 ≤ k := fun _ h => h.elim
  go_enter Tryz.func8, Tryz.ntmps8
  go_wp2_with fail
  refine (new_calls w G 100).mono ?_
  rintro e w1 ⟨rfl, hse, hb1⟩
  have h1 := Lib.hid (InR.fresh hse hb1)
  have ok0 := new_ok 100
  clear hse hb1
  have G1 := h1.out.glob G h08
  go_wp2_with fail
  refine (h1.out.feed G1 _ ok0 exA (by decide)).mono ?_
  rintro e w2 ⟨rfl, hin⟩
  have h2 := Lib.hid hin
  have ok1 := feed_ok ok0 exA
  have e1 := ex1
  change ((feedS (newS 100) exA).1 == _ && _) = true at e1
  change Hid (InR NoBlk w (w.heap.size + 1) sess1 _ _ w2) at h2
  change Ok sess1 _ at ok1
  simp only [Bool.and_eq_true, beq_iff_eq, Bool.not_eq_true'] at e1
  rw [show (feedS (newS 100) exA).1 = [50, 53, 48, 32, 79, 75, 13, 10, 50, 53, 48, 32, 79, 75, 13, 10, 50, 53, 48, 32, 79, 75, 13, 10, 50, 53, 48, 32, 79, 75, 13, 10] from e1.1, show (feedS (newS 100) exA).2.waits = false from e1.2]
  have G2 := h2.out.glob G h08
  clear hin h1 G1 e1
  go_wp2_with fail
  refine (h2.out.feed G2 _ ok1 exB (by decide)).mono ?_
  rintro e w3 ⟨rfl, hin⟩
  have h3 : Hid (InR NoBlk w (w.heap.size + 1) sess2 _ _ w3) := hin
  have ok2 : Ok sess2 _ := feed_ok ok1 exB
  have e2 := ex2
  simp only [Bool.and_eq_true, beq_iff_eq] at e2
  rw [e2.1, show (feedS sess1 exB).2.waits = true from e2.2]
  have G3 := h3.out.glob G h08
  clear hin h2 G2
  go_wp2_with fail
  refine (h3.out.mail G3 ok2 e2.2).mono ?_
  have e3 := ex3
  simp only [beq_iff_eq] at e3
  rw [e3]
  rintro e w4 ⟨v2, rfl, hv⟩
  have h4 := Lib.hid hv
  have hr4 : RowAt w4 9 v2 (strsV [[99, 64, 100]]) := by obtain ⟨p, F, M, _, _, _, _, _, _, q, _⟩ := hv; exact q
  obtain ⟨kc, offc, cc, hvc, hcell⟩ := hr4.cells (by simp [strsV])
  have hcl : (strsV [[99, 64, 100]]).length = 1 := rfl
  rw [hcl] at hvc
  subst hvc
  clear hv h3 G3 hr4 e2 e3 hcl hcell
  go_wp2_with fail
  obtain ⟨w5, hw5⟩ : ∃ w5, w4.alloc (.cells #[.string ⟨#[97, 64, 98]⟩, .slice (some ⟨kc, offc, none⟩) 1 cc, .string ⟨#[97, 13, 10, 46, 13, 10]⟩] 35) = w5 := ⟨_, rfl⟩
  rw [hw5]
  have hb5 : Below w4.heap.size w4 w5 := by rw [← hw5]; exact (Below.refl _ _).alloc (Nat.le_refl _) _
  have hn5 : w5.heap[w4.heap.size]? = some (.cells #[.string ⟨#[97, 64, 98]⟩, .slice (some ⟨kc, offc, none⟩) 1 cc, .string ⟨#[97, 13, 10, 46, 13, 10]⟩] 35 (0, 0)) := by rw [← hw5]; exact heap_alloc_new _ _
  obtain ⟨F, hin5, hF1, hF2, hF8, hk5, hr5, hvF⟩ := h4.out.rebase hb5
  have hcell : w5.cell? ⟨kc, offc, none⟩ = some (.string ⟨#[99, 64, 100]⟩) := by
    obtain ⟨g', off', cap', e, hc⟩ := hr5.cells (by simp [strsV])
    cases e
    have := hc 0 (S [99, 64, 100]) rfl
    simpa [S] using this
  have hkcF : ¬ F kc := hvF kc rfl
  have h48 : w4.heap.size < w5.heap.size := by rw [← hw5]; simp
  have hwF : ¬ F w4.heap.size := fun q => by have := hF2 _ q; omega
  have H5 := Lib.hid hin5
  have HF1 := Lib.hid hF1
  have HK5 := Lib.hid hk5
  have HF8 := Lib.hid hF8
  have G5 : Glob w5 := G.kept HK5.out h08
  have HC := Lib.hid hcell
  have HN5 := Lib.hid hn5
  clear hin5 hF1 hk5 hF8 hcell hn5 hw5 hb5 h4 hr5 hvF hF2 h48
  have e4 := ex4
  simp only [Bool.and_eq_true, beq_iff_eq, Bool.not_eq_true'] at e4
  refine (H5.out.answer G5 0).mono ?_
  rw [show (answerS sess2 0).1 = [50, 53, 48, 32, 79, 75, 13, 10] from e4.1.1.1]
  rintro e w6 ⟨rfl, hin⟩
  have h6 : Hid (InR F w5 (w.heap.size + 1) sess3 _ _ w6) := hin
  have ok3 : Ok sess3 _ := answer_ok ok2 0
  have G6 := h6.out.glob G5 HF8.out
  clear hin H5
  go_wp2_with fail
  refine (h6.out.feed G6 _ ok3 [] (by decide)).mono ?_
  rw [show (feedS sess3 []).1 = [50, 50, 49, 32, 66, 121, 101, 13, 10] from e4.1.1.2, show (feedS sess3 []).2.waits = false from e4.1.2]
  rintro e w7 ⟨rfl, hin⟩
  have h7 : Hid (InR F w5 (w.heap.size + 1) sess4 _ _ w7) := hin
  have ok4 : Ok sess4 _ := feed_ok ok3 []
  have G7 := h7.out.glob G5 HF8.out
  clear hin h6 G6 e4
  go_wp2_with fail
  have e5 := ex5
  simp only [Bool.and_eq_true, beq_iff_eq, Bool.not_eq_true'] at e5
  refine (h7.out.feed G7 _ ok4 exC (by decide)).mono ?_
  rw [show (feedS sess4 exC).1 = [] from e5.1.1, show (feedS sess4 exC).2.waits = false from e5.1.2]
  rintro e w8 ⟨rfl, hin⟩
  have h8 : Hid (InR F w5 (w.heap.size + 1) sess5 _ _ w8) := hin
  have G8 := h8.out.glob G5 HF8.out
  have ov5 : sess5.over = true := e5.2
  clear hin h7 G7 e5
  go_wp2_with fail
  refine (new_calls w8 G8 100).mono ?_
  rintro e w9 ⟨rfl, hse, hb9⟩
  have h9 := Lib.hid (InR.fresh hse hb9)
  clear hse hb9
  have G9 := h9.out.glob G8 h08
  go_wp2_with fail
  have e6 := ex6
  simp only [Bool.and_eq_true, beq_iff_eq, Bool.not_eq_true'] at e6
  refine (h9.out.feed G9 _ ok0 exD (by decide)).mono ?_
  rw [show (feedS (newS 100) exD).1 = [50, 53, 48, 45, 112, 111, 117, 99, 104, 13, 10, 50, 53, 48, 45, 80, 73, 80, 69, 76, 73, 78, 73, 78, 71, 13, 10, 50, 53, 48, 45, 83, 73, 90, 69, 32, 49, 48, 48, 13, 10, 50, 53, 48, 32, 79, 75, 13, 10, 53, 53, 50, 32, 77, 101, 115, 115, 97, 103, 101, 32, 115, 105, 122, 101, 32, 101, 120, 99, 101, 101, 100, 115, 32, 108, 105, 109, 105, 116, 13, 10, 53, 48, 49, 32, 83, 121, 110, 116, 97, 120, 32, 101, 114, 114, 111, 114, 32, 105, 110, 32, 112, 97, 114, 97, 109, 101, 116, 101, 114, 115, 13, 10, 53, 48, 51, 32, 66, 97, 100, 32, 115, 101, 113, 117, 101, 110, 99, 101, 32, 111, 102, 32, 99, 111, 109, 109, 97, 110, 100, 115, 13, 10, 50, 53, 48, 32, 79, 75, 13, 10, 53, 48, 49, 32, 83, 121, 110, 116, 97, 120, 32, 101, 114, 114, 111, 114, 32, 105, 110, 32, 112, 97, 114, 97, 109, 101, 116, 101, 114, 115, 13, 10, 53, 48, 51, 32, 66, 97, 100, 32, 115, 101, 113, 117, 101, 110, 99, 101, 32, 111, 102, 32, 99, 111, 109, 109, 97, 110, 100, 115, 13, 10, 50, 53, 50, 32, 67, 97, 110, 110, 111, 116, 32, 118, 101, 114, 105, 102, 121, 32, 117, 115, 101, 114, 13, 10, 53, 48, 48, 32, 83, 121, 110, 116, 97, 120, 32, 101, 114, 114, 111, 114, 13, 10, 53, 48, 49, 32, 83, 121, 110, 116, 97, 120, 32, 101, 114, 114, 111, 114, 32, 105, 110, 32, 112, 97, 114, 97, 109, 101, 116, 101, 114, 115, 13, 10] from e6.1.1, show (feedS (newS 100) exD).2.waits = false from e6.1.2]
  rintro e wA ⟨rfl, hin⟩
  have hA : Hid (InR NoBlk w8 (w8.heap.size + 1) tess1 _ _ wA) := hin
  have GA := hA.out.glob G8 h08
  have ovT : tess1.over = false := e6.2
  have wtT : tess1.waits = false := e6.1.2
  clear hin h9 G9 e6
  have h8A := Lib.hid (h8.out.below hA.out.toBelow)
  have hkA : Kept F w5 wA := by obtain ⟨p, F', M, _, _, _, _, _, hk⟩ := h8A.out; exact hk
  have cT : wA.heap[w4.heap.size]? = some (.cells #[.string ⟨#[97, 64, 98]⟩, .slice (some ⟨kc, offc, none⟩) 1 cc, .string ⟨#[97, 13, 10, 46, 13, 10]⟩] 35 (0, 0)) := hkA.heap HN5.out hwF
  have c0 : wA.cell? ⟨w4.heap.size, 0, none⟩ = some (.string ⟨#[97, 64, 98]⟩) := by simp [World.cell?, cT]
  have c1 : wA.cell? ⟨w4.heap.size, 1, none⟩ = some (.slice (some ⟨kc, offc, none⟩) 1 cc) := by simp [World.cell?, cT]
  have c2 : wA.cell? ⟨w4.heap.size, 2, none⟩ = some (.string ⟨#[97, 13, 10, 46, 13, 10]⟩) := by simp [World.cell?, cT]
  have c3 : wA.cell? ⟨kc, offc, none⟩ = some (.string ⟨#[99, 64, 100]⟩) := hkA.cell HC.out hkcF
  have HBel : Hid (Below w.heap.size w wA) := by
    have : Kept NoBlk w wA := HK5.out.trans' hkA fun k q => HF1.out k q
    exact this.below fun k q => q.elim
  have G8' := Lib.hid G8
  have HB8 : Hid (Below w.heap.size w w8) := by
    obtain ⟨p, F', M, _, _, _, _, _, hk⟩ := h8.out
    have : Kept NoBlk w w8 := HK5.out.trans' hk fun k q => HF1.out k q
    exact this.below fun k q => q.elim
  clear hkA cT h8 G8 HN5 HC HK5
  go_wp2_with fail
  refine (h8A.out.over).mono ?_
  rw [ov5]
  rintro e wX ⟨rfl, hwX⟩
  rw [hwX]
  clear hwX
  go_wp2_with fail
  refine (hA.out.over).mono ?_
  rw [ovT]
  rintro e wX ⟨rfl, hwX⟩
  rw [hwX]
  clear hwX
  go_wp2_with fail
  refine (greeting_calls wA GA _).mono ?_
  rw [show replyL 220 = [50, 50, 48, 32, 112, 111, 117, 99, 104, 32, 114, 101, 97, 100, 121, 13, 10] by decide +kernel]
  rintro e wB ⟨rfl, hbB⟩
  have hB := Lib.hid (hA.out.below hbB)
  have HBB := Lib.hid (below_then'' HBel.out hbB HBel.out.size)
  have GB := GA.below' hbB
  clear hbB
  go_wp2_with fail
  refine (hB.out.answer GB 0).mono ?_
  have ea : answerS tess1 0 = ([], tess1) := by unfold answerS; rw [wtT]; rfl
  rw [ea]
  rintro e wC ⟨rfl, hin⟩
  have hC := Lib.hid hin
  have GC := hC.out.glob G8'.out h08
  clear hin
  go_wp2_with fail
  obtain ⟨pC, FC, hsC⟩ : ∃ p F, SessAt wC (w8.heap.size + 1) tess1 p F := by obtain ⟨p, F', M, q, _⟩ := hC.out; exact ⟨p, F', q⟩
  have HSC := Lib.hid hsC
  clear hsC
  refine (env_calls wC _ tess1 pC FC HSC.out GC wtT).mono ?_
  rintro e wD ⟨rfl, hbD⟩
  have HE : Hid (Below w.heap.size w wD) := below_then'' (below_then'' HB8.out hC.out.toBelow HB8.out.size) hbD (Nat.le_trans HB8.out.size hC.out.toBelow.size)
  clear hbD
  have hfd : ∀ W : World, (Instr.field 35 (.agg #[S [], .slice none 0 0, S []]) 2).run Tryz.prog W = .ok (S []) W := fun _ => by kernel_rfl
  go_wp2
  go_ret
  exact ⟨rfl, HE.out⟩
end Go.Proofs.YtapanjfheddfnaaGreatDoor
