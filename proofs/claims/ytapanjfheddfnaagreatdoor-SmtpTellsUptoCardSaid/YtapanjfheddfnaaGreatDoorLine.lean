/- A line of a message. -/
import Derived.Test.YtapanjfheddfnaaGreatDoorCmd
namespace Go.Proofs.YtapanjfheddfnaaGreatDoor
open Go.RowKit Go.Shelf
attribute [local go_sem high] ext_to ext_from
attribute [local go_sem] ext_list app_list size_list

def lineS (s : Sess) (y l : Bs) : Bs × Sess :=
  if Lib.hasSuffix l [10] = false ∨ bareL l ≠ [46] then ([], { s with long := s.long || !Lib.hasSuffix l [10], body := some (y ++ Lib.trimPrefix l [46]) }) else
  if s.long then (replyL 500, resetS { s with body := none }) else
  if s.most < y.length then (replyL 552, resetS { s with body := none }) else ([], { s with waits := true })

section
variable {W W' : World} {b : Nat} {s : Sess} {p : SP} {F : Nat → Prop}
/-- The body is written on. -/
theorem SessAt.wrote (h : SessAt W b s p F) (h8 : 8 ≤ W.heap.size) (bb : Nat) (hbv : p.bv = .pointer (some ⟨bb, 0, none⟩)) (y : Bs) (hy : BuiltAt W bb p.yv y) (hk : Kept (fun k => k = bb ∨ p.yv.ownBlock = some k) W W') (v' : Value) (y' : Bs) (hy' : BuiltAt W' bb v' y')
    (hv : ∀ k, v'.ownBlock = some k → p.yv.ownBlock = some k ∨ W.heap.size ≤ k) : SessAt W' b { s with body := some y' } { p with yv := v' } (Fresh F W W') := by
  obtain ⟨_, ⟨q, _, hbk⟩, hr⟩ := hy
  have lt : ∀ k, Go.Proofs.YtapanjfheddfnaaGreatDoor.foot b p k → k < W.heap.size := fun k q => (h.blk k (h.foot k q)).2
  have nk : ∀ (k : Nat) (o : Obj), W.heap[k]? = some o → (∀ c, o ≠ Obj.cells c 69 (0, 0)) → (∀ c fz, o ≠ Obj.cells c 5 fz) → W'.heap[k]? = W.heap[k]? := by
    intro k o hko h1 h2
    refine hk.block k (Array.getElem?_eq_some_iff.1 hko).1 ?_
    rintro (rfl | e)
    · rw [hbk] at hko; exact h1 _ (Option.some.inj hko).symm
    · obtain ⟨_, c, fz, hc⟩ := hr.kind k e
      rw [hc] at hko; exact h2 _ _ (Option.some.inj hko).symm
  have row9 : ∀ {v : Value} {xs : List Value}, RowAt W 9 v xs → RowAt W' 9 v xs := fun hv => hv.heap fun k q => by
    obtain ⟨c, hc⟩ := hv.kind k q
    exact nk k _ hc (by simp) (by simp)
  have rowr : RowAt W' 5 p.rv (bytesV s.rest) := h.rest.heap fun k q => hk.block k (lt k (.inr (.inr (.inl q)))) (by
    rintro (rfl | e)
    · obtain ⟨c, hc⟩ := h.rest.kind k q; rw [hbk] at hc; simp at hc
    · exact h.sep.ry k q e)
  have snd : SendAt W' p.sv s.sender := h.sender.heap fun k q => by
    have hsd := h.sender
    cases hx : s.sender with
    | none => rw [hx] at hsd; rw [show p.sv = .pointer none from hsd] at q; cases q
    | some a =>
      rw [hx] at hsd
      obtain ⟨sb, e, _, hc⟩ := hsd
      rw [e] at q; cases q
      exact nk _ _ hc (by simp) (by simp)
  refine ⟨fun k q => ?_, Fresh.blk h hk.size h8, (nk _ _ h.hs (by simp) (by simp)).trans h.hs, (nk _ _ h.hf (by simp) (by simp)).trans h.hf, rowr, row9 h.kept, row9 h.rcp, snd, ⟨bb, hbv, hy'⟩, ⟨h.sep.kt, h.sep.ks, h.sep.ts, fun k q1 q2 => ?_⟩⟩
  · rcases q with q | q | q | q | q | q | q | q
    · exact .inl (h.foot k (.inl q))
    · exact .inl (h.foot k (.inr (.inl q)))
    · exact .inl (h.foot k (.inr (.inr (.inl q))))
    · exact .inl (h.foot k (.inr (.inr (.inr (.inl q)))))
    · exact .inl (h.foot k (.inr (.inr (.inr (.inr (.inl q))))))
    · exact .inl (h.foot k (.inr (.inr (.inr (.inr (.inr (.inl q)))))))
    · exact .inl (h.foot k (.inr (.inr (.inr (.inr (.inr (.inr (.inl q))))))))
    · rcases hv k q with e | e
      · exact .inl (h.foot k (.inr (.inr (.inr (.inr (.inr (.inr (.inr e))))))))
      · exact .inr ⟨e, (hy'.2.2.lt k q).2⟩
  · rcases hv k q2 with e | e
    · exact h.sep.ry k q1 e
    · have := lt k (.inr (.inr (.inl q1))); omega
end

theorem SessAt.wroteStep {w W W' : World} {b : Nat} {s : Sess} {p : SP} {F : Nat → Prop} (h : SessAt W b s p F) (hw : Kept F w W) (h8 : 8 ≤ w.heap.size) (bb : Nat) (hbv : p.bv = .pointer (some ⟨bb, 0, none⟩)) (y : Bs) (hy : BuiltAt W bb p.yv y) (hk : Kept (fun k => k = bb ∨ p.yv.ownBlock = some k) W W') (v' : Value) (y' : Bs) (hy' : BuiltAt W' bb v' y')
    (hv : ∀ k, v'.ownBlock = some k → p.yv.ownBlock = some k ∨ W.heap.size ≤ k) : Step b F w W' { s with body := some y' } := by
  have z := hw.size
  refine (Step.same h hw h8).trans ⟨hk.mono fun k q => .inl (.inl (h.foot k ?_)), _, (h.wrote (by omega) bb hbv y hy hk v' y' hy' hv).wide (fun k q => q.elim (fun q => .inl (.inl q)) .inr) (fun k q => ?_)⟩
  · rcases q with rfl | q
    · exact .inr (.inr (.inr (.inr (.inr (.inr (.inl (by rw [hbv]; rfl)))))))
    · exact .inr (.inr (.inr (.inr (.inr (.inr (.inr q))))))
  · have z2 := hk.size
    rcases q with (q | q) | q
    · have := h.blk k q; omega
    · omega
    · omega
theorem undot_calls (l t : Bs) (ht : Lib.trimPrefix l [46] = t) (w : World) : Calls Tryz.prog 48 #[S l, .string ⟨#[46]⟩] w fun e w' => e = .returned (S t) ∧ w' = w := by
  rw [← ht]; exact Tryz.strings_TrimPrefix ⟨l.toArray⟩ ⟨#[46]⟩ w
theorem SessAt.bodyIs {W : World} {b : Nat} {s : Sess} {p : SP} {F : Nat → Prop} (h : SessAt W b s p F) {y : Bs} (hy : s.body = some y) {bb : Nat} (hbv : p.bv = .pointer (some ⟨bb, 0, none⟩)) : BuiltAt W bb p.yv y := by
  have := h.body
  rw [hy] at this
  obtain ⟨b', e, hb⟩ := this
  rw [hbv] at e; cases e
  exact hb
theorem SessAt.bNot {W : World} {b : Nat} {s : Sess} {p : SP} {F : Nat → Prop} (h : SessAt W b s p F) {y : Bs} {bb : Nat} (hb : BuiltAt W bb p.yv y) : ¬ (b = bb ∨ p.yv.ownBlock = some b) := by
  obtain ⟨_, ⟨q, _, hbk⟩, hr⟩ := hb
  rintro (rfl | e)
  · have := h.hs; rw [hbk] at this; simp at this
  · obtain ⟨_, c, fz, hc⟩ := hr.kind _ e
    have := h.hs; rw [hc] at this; simp at this

set_option maxHeartbeats 2000000 in
set_option maxRecDepth 100000 in
theorem line_calls (w : World) (b : Nat) (s : Sess) (p : SP) (F : Nat → Prop) (h : SessAt w b s p F) (G : Glob w) (y : Bs) (hy : s.body = some y) (hm : s.most ≤ 9223372036854775807) (l : Bs) (hl : l.length ≤ 1000000) (hyl : y.length ≤ 1000000000) :
    Calls Tryz.prog 37 #[.pointer (some ⟨b, 0, none⟩), S l] w fun e w' => e = .returned (S (lineS s y l).1) ∧ Step b F w w' (lineS s y l).2 := by
  have H := Lib.hid h
  obtain ⟨bb, hbv, hbt⟩ : ∃ bb, p.bv = .pointer (some ⟨bb, 0, none⟩) ∧ BuiltAt w bb p.yv y := by have := h.body; rw [hy] at this; exact this
  have HBT := Lib.hid hbt
  have c7 : w.cell? ⟨b, 7, none⟩ = some (.bool s.long) := h.cell 7
  have c6 : w.cell? ⟨b, 6, none⟩ = some (.pointer (some ⟨bb, 0, none⟩)) := by rw [← hbv]; exact h.cell 6
  have f7 := h.frozen 7
  obtain ⟨t, ht⟩ : ∃ t, Lib.trimPrefix l [46] = t := ⟨_, rfl⟩
  have htl : t.length ≤ 1000000 := by rw [← ht]; exact Nat.le_trans (trimPrefix_le _ _) hl
  have HT := Lib.hid ht
  cases hsf : Lib.hasSuffix l [10]
  · have HE : Hid (lineS s y l = ([], { s with long := true, body := some (y ++ t) })) := by unfold Hid lineS; rw [if_pos (.inl hsf), hsf, ht]; simp
    have HS := Lib.hid hsf
    have h1 := h.flag 7 (.bool true) { s with long := true } rfl rfl rfl rfl rfl rfl
    have hk1 : Kept F w (w.setCell ⟨b, 7, none⟩ (.bool true)) := h.k4 (Kept.refl _ _) _ _
    clear hsf ht
    rw [HE.out]
    go_enter Tryz.func37, Tryz.ntmps37
    go_wp2_with fail
    refine (Tryz.strings_HasSuffix ⟨l.toArray⟩ ⟨#[10]⟩ w (by show l.length ≤ _; omega)).mono ?_
    show ∀ e w', e = Ending.returned (.bool (Lib.hasSuffix l [10])) ∧ _ → _
    rw [HS.out]
    rintro e w1 ⟨rfl, hw1⟩
    rw [hw1]
    clear hw1 w1
    have hb1 : BuiltAt (w.setCell ⟨b, 7, none⟩ (.bool true)).drew bb p.yv y := h1.bodyIs hy hbv
    have hnb := h1.bNot hb1
    have HB1 := Lib.hid hb1
    have h1d : SessAt (w.setCell ⟨b, 7, none⟩ (.bool true)).drew b { s with long := true } p F := h1.below ((Below.refl _ _).drew)
    have HD1 := Lib.hid h1d
    have c6' : (w.setCell ⟨b, 7, none⟩ (.bool true)).drew.cell? ⟨b, 6, none⟩ = some (.pointer (some ⟨bb, 0, none⟩)) := by
      rw [h1d.cell 6, ← hbv]; rfl
    clear hb1 h1d
    cases hlong : s.long
    · go_wp2_with fail
      go_region_held3 (fun w' => w'.cell? ⟨b, 6, none⟩ = some (.pointer (some ⟨bb, 0, none⟩))) (first | assumption | exact hkw.cell c6' hnb)
        (first | (go_at_call 48; refine (undot_calls l t HT.out _).mono ?_; rintro e wt ⟨rfl, rfl⟩)
               | (go_at_call 36; refine (write_calls _ bb p.yv y t HB1.out (by omega)).mono ?_; rintro e w2 ⟨rfl, v', hbw, hkw, hvw⟩))
      have HBW := Lib.hid hbw
      have HKW := Lib.hid hkw
      have HVW := Lib.hid hvw
      clear hbw hkw hvw
      go_wp2
      go_ret
      exact ⟨rfl, HD1.out.wroteStep hk1.drew G.sz bb hbv y HB1.out HKW.out v' _ HBW.out HVW.out⟩
    · go_wp2_with fail
      go_region_held3 (fun w' => w'.cell? ⟨b, 6, none⟩ = some (.pointer (some ⟨bb, 0, none⟩))) (first | assumption | exact hkw.cell c6' hnb)
        (first | (go_at_call 48; refine (undot_calls l t HT.out _).mono ?_; rintro e wt ⟨rfl, rfl⟩)
               | (go_at_call 36; refine (write_calls _ bb p.yv y t HB1.out (by omega)).mono ?_; rintro e w2 ⟨rfl, v', hbw, hkw, hvw⟩))
      have HBW := Lib.hid hbw
      have HKW := Lib.hid hkw
      have HVW := Lib.hid hvw
      clear hbw hkw hvw
      go_wp2
      go_ret
      exact ⟨rfl, HD1.out.wroteStep hk1.drew G.sz bb hbv y HB1.out HKW.out v' _ HBW.out HVW.out⟩
  · obtain ⟨q, hq⟩ : ∃ q, bareL l = q := ⟨_, rfl⟩
    have HQ := Lib.hid hq
    have HS := Lib.hid hsf
    by_cases hdot : q = [46]
    · have hdq : (q == [46]) = true := by simp [hdot]
      have f6 := h.frozen 6
      have c0 : w.cell? ⟨b, 0, none⟩ = some (.int .i64 s.most) := h.cell 0
      have hcond : ¬ (Lib.hasSuffix l [10] = false ∨ bareL l ≠ [46]) := by rw [hsf, hq]; simp [hdot]
      cases hlong : s.long
      · have hd : Below w.heap.size w w.drew := (Below.refl _ _).drew
        have hD := h.below hd
        by_cases hbig : s.most < y.length
        · have HE : Hid (lineS s y l = (replyL 552, resetS { s with body := none })) := by unfold Hid lineS; rw [if_neg hcond, if_neg (by rw [hlong]; simp), if_pos hbig]
          have p1 : decide ((s.most : Int) < (y.length : Int)) = true := by simp; omega
          clear hsf ht hq hcond hdot
          have HN := Lib.hid (hD.noBody)
          have HK : Hid (Kept F w (((w.drew.setCell ⟨b, 6, none⟩ (.pointer none)).setCell ⟨b, 4, none⟩ (.pointer none)).setCell ⟨b, 5, none⟩ (.slice none 0 0))) := h.k4 (h.k4 (h.k4 (Kept.of_below hd) 6 _) 4 _) 5 _
          rw [HE.out]
          go_enter Tryz.func37, Tryz.ntmps37
          go_wp2_with fail
          refine (Tryz.strings_HasSuffix ⟨l.toArray⟩ ⟨#[10]⟩ w (by show l.length ≤ _; omega)).mono ?_
          show ∀ e w', e = Ending.returned (.bool (Lib.hasSuffix l [10])) ∧ _ → _
          rw [HS.out]
          rintro e w1 ⟨rfl, hw1⟩
          rw [hw1]
          clear hw1 w1
          go_wp2_with fail
          refine (bareText_calls l hl w).mono ?_
          rw [HQ.out]
          rintro e w1 ⟨rfl, hw1⟩
          rw [hw1]
          clear hw1 w1
          go_wp2_with fail
          go_region_held3 (fun w' => w'.cell? ⟨b, 6, none⟩ = some (.pointer (some ⟨bb, 0, none⟩)) ∧ w'.cell? ⟨b, 0, none⟩ = some (.int .i64 s.most)) (first | assumption | exact ⟨c6, c0⟩)
            (first | (go_at_call 58; refine (len_calls w.drew bb p.yv y HBT.out).mono ?_; rintro e wt ⟨rfl, rfl⟩))
          go_wp2_with fail
          refine (reset_calls _ b _ _ F HN.out).mono ?_
          rintro e w1 ⟨rfl, rfl⟩
          obtain ⟨p2, h2⟩ := reset_done HN.out
          have hk2 := HK.out
          obtain ⟨w2, hw2⟩ : ∃ w2, ((w.drew.setCell ⟨b, 6, none⟩ (.pointer none)).setCell ⟨b, 4, none⟩ (.pointer none)).setCell ⟨b, 5, none⟩ (.slice none 0 0) = w2 := ⟨_, rfl⟩
          rw [hw2] at h2 hk2 ⊢
          have G2 := H.out.glob G hk2
          go_wp2_with fail
          refine (reply_552 _ G2).mono ?_
          rintro e w3 ⟨rfl, hb3⟩
          go_wp2
          go_ret
          exact ⟨rfl, (Step.same h2 hk2 G.sz).below hb3 G2.sz⟩
        · have HE : Hid (lineS s y l = ([], { s with waits := true })) := by unfold Hid lineS; rw [if_neg hcond, if_neg (by rw [hlong]; simp), if_neg hbig]
          have p1 : decide ((s.most : Int) < (y.length : Int)) = false := by simp; omega
          have f8 : w.drew.frozen? ⟨b, 8, none⟩ = false := hD.frozen 8
          have c8 : w.drew.cell? ⟨b, 8, none⟩ = some (.bool s.waits) := hD.cell 8
          have HN := Lib.hid (hD.flag 8 (.bool true) { s with waits := true } rfl rfl rfl rfl rfl rfl)
          have HK : Hid (Kept F w (w.drew.setCell ⟨b, 8, none⟩ (.bool true))) := h.k4 (Kept.of_below hd) 8 _
          clear hsf ht hq hcond hdot
          rw [HE.out]
          go_enter Tryz.func37, Tryz.ntmps37
          go_wp2_with fail
          refine (Tryz.strings_HasSuffix ⟨l.toArray⟩ ⟨#[10]⟩ w (by show l.length ≤ _; omega)).mono ?_
          show ∀ e w', e = Ending.returned (.bool (Lib.hasSuffix l [10])) ∧ _ → _
          rw [HS.out]
          rintro e w1 ⟨rfl, hw1⟩
          rw [hw1]
          clear hw1 w1
          go_wp2_with fail
          refine (bareText_calls l hl w).mono ?_
          rw [HQ.out]
          rintro e w1 ⟨rfl, hw1⟩
          rw [hw1]
          clear hw1 w1
          go_wp2_with fail
          go_region_held3 (fun w' => w'.cell? ⟨b, 6, none⟩ = some (.pointer (some ⟨bb, 0, none⟩)) ∧ w'.cell? ⟨b, 0, none⟩ = some (.int .i64 s.most)) (first | assumption | exact ⟨c6, c0⟩)
            (first | (go_at_call 58; refine (len_calls w.drew bb p.yv y HBT.out).mono ?_; rintro e wt ⟨rfl, rfl⟩))
          go_wp2
          go_ret
          exact ⟨rfl, Step.same HN.out HK.out G.sz⟩
      · have HE : Hid (lineS s y l = (replyL 500, resetS { s with body := none })) := by unfold Hid lineS; rw [if_neg hcond, if_pos hlong]
        clear hsf ht hq hcond hdot
        have HN := Lib.hid (h.noBody)
        have HK : Hid (Kept F w (((w.setCell ⟨b, 6, none⟩ (.pointer none)).setCell ⟨b, 4, none⟩ (.pointer none)).setCell ⟨b, 5, none⟩ (.slice none 0 0))) := h.k4 (h.k4 (h.k4 (Kept.refl _ _) 6 _) 4 _) 5 _
        rw [HE.out]
        go_enter Tryz.func37, Tryz.ntmps37
        go_wp2_with fail
        refine (Tryz.strings_HasSuffix ⟨l.toArray⟩ ⟨#[10]⟩ w (by show l.length ≤ _; omega)).mono ?_
        show ∀ e w', e = Ending.returned (.bool (Lib.hasSuffix l [10])) ∧ _ → _
        rw [HS.out]
        rintro e w1 ⟨rfl, hw1⟩
        rw [hw1]
        clear hw1 w1
        go_wp2_with fail
        refine (bareText_calls l hl w).mono ?_
        rw [HQ.out]
        rintro e w1 ⟨rfl, hw1⟩
        rw [hw1]
        clear hw1 w1
        go_wp2_with fail
        refine (reset_calls _ b _ _ F HN.out).mono ?_
        rintro e w1 ⟨rfl, rfl⟩
        obtain ⟨p2, h2⟩ := reset_done HN.out
        have hk2 := HK.out
        obtain ⟨w2, hw2⟩ : ∃ w2, ((w.setCell ⟨b, 6, none⟩ (.pointer none)).setCell ⟨b, 4, none⟩ (.pointer none)).setCell ⟨b, 5, none⟩ (.slice none 0 0) = w2 := ⟨_, rfl⟩
        rw [hw2] at h2 hk2 ⊢
        have G2 := H.out.glob G hk2
        go_wp2_with fail
        refine (reply_500 _ G2).mono ?_
        rintro e w3 ⟨rfl, hb3⟩
        go_wp2
        go_ret
        exact ⟨rfl, (Step.same h2 hk2 G.sz).below hb3 G2.sz⟩
    · have HE : Hid (lineS s y l = ([], { s with body := some (y ++ t) })) := by unfold Hid lineS; rw [hq, if_pos (.inr hdot), hsf, ht]; simp
      have hdq : (q == [46]) = false := by simpa using hdot
      clear hsf ht hq
      rw [HE.out]
      cases hlong : s.long
      · have h1 := h.flag 7 (.bool false) s (by simp [cellsOf, hlong]) rfl rfl rfl rfl rfl
        have hk1 : Kept F w (w.setCell ⟨b, 7, none⟩ (.bool false)) := h.k4 (Kept.refl _ _) _ _
        have hb1 : BuiltAt (w.setCell ⟨b, 7, none⟩ (.bool false)).drew bb p.yv y := h1.bodyIs hy hbv
        have hnb := h1.bNot hb1
        have HB1 := Lib.hid hb1
        have h1d : SessAt (w.setCell ⟨b, 7, none⟩ (.bool false)).drew b s p F := h1.below ((Below.refl _ _).drew)
        have HD1 := Lib.hid h1d
        have c6' : (w.setCell ⟨b, 7, none⟩ (.bool false)).drew.cell? ⟨b, 6, none⟩ = some (.pointer (some ⟨bb, 0, none⟩)) := by
          rw [h1d.cell 6, ← hbv]; rfl
        clear hb1 h1d
        go_enter Tryz.func37, Tryz.ntmps37
        go_wp2_with fail
        refine (Tryz.strings_HasSuffix ⟨l.toArray⟩ ⟨#[10]⟩ w (by show l.length ≤ _; omega)).mono ?_
        show ∀ e w', e = Ending.returned (.bool (Lib.hasSuffix l [10])) ∧ _ → _
        rw [HS.out]
        rintro e w1 ⟨rfl, hw1⟩
        rw [hw1]
        clear hw1 w1
        go_wp2_with fail
        refine (bareText_calls l hl w).mono ?_
        rw [HQ.out]
        rintro e w1 ⟨rfl, hw1⟩
        rw [hw1]
        clear hw1 w1
        go_wp2_with fail
        go_region_held3 (fun w' => w'.cell? ⟨b, 6, none⟩ = some (.pointer (some ⟨bb, 0, none⟩))) (first | assumption | exact hkw.cell c6' hnb)
          (first | (go_at_call 48; refine (undot_calls l t HT.out _).mono ?_; rintro e wt ⟨rfl, rfl⟩)
                 | (go_at_call 36; refine (write_calls _ bb p.yv y t HB1.out (by omega)).mono ?_; rintro e w2 ⟨rfl, v', hbw, hkw, hvw⟩))
        have HBW := Lib.hid hbw
        have HKW := Lib.hid hkw
        have HVW := Lib.hid hvw
        clear hbw hkw hvw
        go_wp2
        go_ret
        exact ⟨rfl, by have z := HD1.out.wroteStep hk1.drew G.sz bb hbv y HB1.out HKW.out v' _ HBW.out HVW.out; rw [hlong] at z; exact z⟩
      · have h1 := h.flag 7 (.bool true) s (by simp [cellsOf, hlong]) rfl rfl rfl rfl rfl
        have hk1 : Kept F w (w.setCell ⟨b, 7, none⟩ (.bool true)) := h.k4 (Kept.refl _ _) _ _
        have hb1 : BuiltAt (w.setCell ⟨b, 7, none⟩ (.bool true)).drew bb p.yv y := h1.bodyIs hy hbv
        have hnb := h1.bNot hb1
        have HB1 := Lib.hid hb1
        have h1d : SessAt (w.setCell ⟨b, 7, none⟩ (.bool true)).drew b s p F := h1.below ((Below.refl _ _).drew)
        have HD1 := Lib.hid h1d
        have c6' : (w.setCell ⟨b, 7, none⟩ (.bool true)).drew.cell? ⟨b, 6, none⟩ = some (.pointer (some ⟨bb, 0, none⟩)) := by
          rw [h1d.cell 6, ← hbv]; rfl
        clear hb1 h1d
        go_enter Tryz.func37, Tryz.ntmps37
        go_wp2_with fail
        refine (Tryz.strings_HasSuffix ⟨l.toArray⟩ ⟨#[10]⟩ w (by show l.length ≤ _; omega)).mono ?_
        show ∀ e w', e = Ending.returned (.bool (Lib.hasSuffix l [10])) ∧ _ → _
        rw [HS.out]
        rintro e w1 ⟨rfl, hw1⟩
        rw [hw1]
        clear hw1 w1
        go_wp2_with fail
        refine (bareText_calls l hl w).mono ?_
        rw [HQ.out]
        rintro e w1 ⟨rfl, hw1⟩
        rw [hw1]
        clear hw1 w1
        go_wp2_with fail
        go_region_held3 (fun w' => w'.cell? ⟨b, 6, none⟩ = some (.pointer (some ⟨bb, 0, none⟩))) (first | assumption | exact hkw.cell c6' hnb)
          (first | (go_at_call 48; refine (undot_calls l t HT.out _).mono ?_; rintro e wt ⟨rfl, rfl⟩)
                 | (go_at_call 36; refine (write_calls _ bb p.yv y t HB1.out (by omega)).mono ?_; rintro e w2 ⟨rfl, v', hbw, hkw, hvw⟩))
        have HBW := Lib.hid hbw
        have HKW := Lib.hid hkw
        have HVW := Lib.hid hvw
        clear hbw hkw hvw
        go_wp2
        go_ret
        exact ⟨rfl, by have z := HD1.out.wroteStep hk1.drew G.sz bb hbv y HB1.out HKW.out v' _ HBW.out HVW.out; rw [hlong] at z; exact z⟩
end Go.Proofs.YtapanjfheddfnaaGreatDoor
