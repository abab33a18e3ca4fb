/- The contract of MAIL. -/
import Derived.Test.YtapanjfheddfnaaGreatDoorMail
namespace Go.Proofs.YtapanjfheddfnaaGreatDoor
open Go.RowKit Go.Shelf
attribute [local go_sem high] ext_to ext_from
attribute [local go_sem] ext_list app_list size_list

set_option maxHeartbeats 4000000 in
set_option maxRecDepth 100000 in
theorem mail_calls (w : World) (b : Nat) (s : Sess) (p : SP) (F : Nat → Prop) (h : SessAt w b s p F) (G : Glob w) (hm : s.most ≤ 9223372036854775807) (rest : Bs) (hrest : rest.length ≤ 1000000) :
    Calls Tryz.prog 62 #[.pointer (some ⟨b, 0, none⟩), S rest] w fun e w' => e = .returned (S (mailS s rest).1) ∧ Step b F w w' (mailS s rest).2 := by
  by_cases hc : s.greeted = false ∨ s.sender ≠ none
  · have : mailS s rest = (replyL 503, s) := by unfold mailS; rw [if_pos hc]
    rw [this]
    exact mail_503 w b s p F h G rest hc
  · have hE0 : mailS s rest = mailP s (pathL rest [70, 82, 79, 77, 58]) := by unfold mailS; rw [if_neg hc]
    have hgr : s.greeted = true := by cases hq : s.greeted <;> simp_all
    have hsn : s.sender = none := by cases hq : s.sender <;> simp_all
    have H := Lib.hid h
    have c3 : w.cell? ⟨b, 3, none⟩ = some (.bool true) := by rw [← hgr]; exact h.cell 3
    have hsv : p.sv = .pointer none := by have := h.sender; rw [hsn] at this; exact this
    have c4 : w.cell? ⟨b, 4, none⟩ = some (.pointer none) := by rw [← hsv]; exact h.cell 4
    obtain ⟨pp, hp⟩ : ∃ pp, pathL rest [70, 82, 79, 77, 58] = pp := ⟨_, rfl⟩
    rw [hE0, hp]
    have hpl : ∀ a r, pp = some (a, r) → a.length ≤ rest.length ∧ r.length ≤ rest.length := fun a r e => pathL_le (hp.trans e)
    clear hE0 hc
    rcases pp with _ | ⟨a, r⟩
    · have E2 : Hid (pathV rest [70, 82, 79, 77, 58] = #[S [], S [], .bool false]) := by unfold Hid pathV; rw [hp]
      have E1 : Hid (mailP s none = (replyL 501, s)) := rfl
      rw [E1.out]
      clear hpl hp
      go_enter Tryz.func62, Tryz.ntmps62
      go_wp2_with fail
      refine (path_calls rest [70, 82, 79, 77, 58] (by omega) (by decide) _ G).mono ?_
      rw [E2.out]
      rintro e w1 ⟨rfl, hb1⟩
      have hb2 : Below w.heap.size w (w1.alloc (.cells #[.string ⟨#[]⟩] 9)) := hb1.alloc hb1.size _
      have G2 := G.below' hb2
      have h2 := H.out.below hb2
      have H2 := Lib.hid h2
      go_wp2_with fail
      refine (reply_501 _ G2).mono ?_
      rintro e w2 ⟨rfl, hb3⟩
      go_wp2
      go_ret
      exact ⟨rfl, (Step.same H2.out (Kept.of_below hb2) G.sz).below hb3 G2.sz⟩
    · obtain ⟨hal, hrl⟩ := hpl a r rfl
      have E2 : Hid (pathV rest [70, 82, 79, 77, 58] = #[S a, S r, .bool true]) := by unfold Hid pathV; rw [hp]
      clear hp hpl
      obtain ⟨E, hE⟩ : ∃ E, mailP s (some (a, r)) = E := ⟨_, rfl⟩
      have HE := Lib.hid hE
      have hmm := @run_makeMap Tryz.prog
      rw [hE]
      clear hE h
      by_cases ha : a = []
      · have haz : (a = []) = True := by simp [ha]
        have haem : List.isEmpty a = true := by simp [ha]
        have hcondA : ¬ (a ≠ [] ∧ mayL a = false) := fun q => q.1 ha
        by_cases hr0 : r = []
        · have hcond : ¬ ((a ≠ [] ∧ mayL a = false) ∨ (r ≠ [] ∧ Lib.containsAny (r.take 1) blanks = false)) := fun q => q.elim hcondA (fun q => q.1 hr0)
          have hrz : (r = []) = True := by simp [hr0]
          have hrem : List.isEmpty r = true := by simp [hr0]
          have hrl0 : r.length = 0 := by rw [hr0]; rfl
          clear hcondA hr0
          clear ha
          go_enter Tryz.func62, Tryz.ntmps62
          go_wp2_with fail
          refine (path_calls rest [70, 82, 79, 77, 58] (by omega) (by decide) _ G).mono ?_
          rw [E2.out]
          rintro e w1 ⟨rfl, hb1⟩
          have hw1s := hb1.size
          have hbB : Below w.heap.size w (w1.alloc (.cells #[S a] 9)) := hb1.alloc hb1.size _
          have GB := G.below' hbB
          have hbox0 : (w1.alloc (.cells #[S a] 9)).heap[w1.heap.size]? = some (.cells #[S a] 9 (0, 0)) := heap_alloc_new _ _
          have hcB : (w1.alloc (.cells #[S a] 9)).cell? ⟨w1.heap.size, 0, none⟩ = some (S a) := World.cell?_alloc_new _ _ _ 0
          have HBOX0 := Lib.hid hbox0
          clear hbox0
          go_wp2_with fail
          have HBC := Lib.hid (hbB)
          have hboxx : ∀ {wx : World}, Below (w1.alloc (.cells #[S a] 9)).heap.size (w1.alloc (.cells #[S a] 9)) wx → wx.heap[w1.heap.size]? = some (.cells #[S a] 9 (0, 0)) := by
            intro wx hx
            have e0 : Below (w1.alloc (.cells #[S a] 9)).heap.size (w1.alloc (.cells #[S a] 9)) (w1.alloc (.cells #[S a] 9)) := Below.refl _ _
            have e1 := (e0.block w1.heap.size (by simp)).trans HBOX0.out
            exact (hx.block _ (Array.getElem?_eq_some_iff.1 e1).1).trans e1
          obtain ⟨wC, hwC⟩ : ∃ wC, (w1.alloc (.cells #[S a] 9)) = wC := ⟨_, rfl⟩
          have hsz : w1.heap.size + 1 = wC.heap.size := by rw [← hwC]; simp
          rw [hwC] at HBC hboxx ⊢
          rw [hsz]
          clear hwC
          go_loopg [1, 7, 9, 10, 11, 12, 13, 14] r.length (fun g v1 v7 _ _ _ _ _ _ wx => OptR wC.heap.size wC r g v1 v7 wx)
          case atStart => exact ⟨r, 0, [], rfl, rfl, rfl, Nat.le_refl _, Nat.le_refl _, by omega, (Below.refl _ wC).alloc (Nat.le_refl _) _, rfl, heap_alloc_new _ _, (), by omega, by omega⟩
          case round =>
            obtain ⟨r', z, given, rfl, rfl, hrun, hrl', hrr, hr6, hbx, _, hmap, _, hz⟩ := hrel
            have hbw := below_then' HBC.out hbx
            have Gx := G.below' hbw
            have HBW := Lib.hid hbw
            clear hbw
            by_cases hre : r' = []
            · have hsome : optL r = some z := by rw [← hrun, hre]; cases gk <;> rfl
              have HEE : Hid (E = if (s.most : Int) < z then (replyL 552, s) else (replyL 250, { s with sender := some a })) := by unfold Hid; rw [← HE.out]; simp only [mailP, if_neg hcond, hsome]
              have hem : List.isEmpty r' = true := by simp [hre]
              have hre' : (r' = []) = True := by simp [hre]
              have c0 : wr.cell? ⟨b, 0, none⟩ = some (.int .i64 s.most) := (H.out.below HBW.out).cell 0
              have hbox := hboxx hbx
              have HBOX := Lib.hid hbox
              clear hrun hre hsome hcond hmap hbx hbox
              by_cases hbig : (s.most : Int) < z
              · have p1 : decide ((s.most : Int) < z) = true := by simpa using hbig
                have HN : Hid (E = (replyL 552, s)) := by unfold Hid; rw [HEE.out, if_pos hbig]
                go_wp2_with fail
                refine (reply_552 _ Gx).mono ?_
                rintro e w6 ⟨rfl, hb6⟩
                go_wp2
                go_ret
                rw [HN.out]
                exact ⟨rfl, (Step.same (H.out.below HBW.out) (Kept.of_below HBW.out) G.sz).below hb6 Gx.sz⟩
              · have p1 : decide ((s.most : Int) < z) = false := by simpa using hbig
                have HN : Hid (E = (replyL 250, { s with sender := some a })) := by unfold Hid; rw [HEE.out, if_neg hbig]
                have c4x : wr.cell? ⟨b, 4, none⟩ = some (.pointer none) := by rw [← hsv]; exact (H.out.below HBW.out).cell 4
                have f4x : wr.frozen? ⟨b, 4, none⟩ = false := (H.out.below HBW.out).frozen 4
                obtain ⟨hst, hks⟩ := sender_set H.out HBW.out G.sz w1.heap.size hw1s HBOX.out
                have HST := Lib.hid hst
                have Gs : Glob (wr.setCell ⟨b, 4, none⟩ (.pointer (some ⟨w1.heap.size, 0, none⟩))) := H.out.glob G hks
                clear hst hks
                go_wp2_with fail
                refine (reply_250 _ Gs).mono ?_
                rintro e w6 ⟨rfl, hb6⟩
                go_wp2
                go_ret
                rw [HN.out]
                exact ⟨rfl, HST.out.below hb6 Gs.sz⟩
            · exact absurd (List.eq_nil_of_length_eq_zero (by omega)) hre
        · have hrem : List.isEmpty r = false := by simpa using hr0
          have hr1 : (1 : Int) ≤ (r.length : Int) := by have := List.length_pos_iff.2 hr0; omega
          cases hca : Lib.containsAny (r.take 1) blanks
          · have HN : Hid (E = (replyL 501, s)) := by unfold Hid; rw [← HE.out]; simp only [mailP]; rw [if_pos (.inr ⟨hr0, hca⟩)]
            have HCA := Lib.hid hca
            clear hca hcondA
            clear ha
            go_enter Tryz.func62, Tryz.ntmps62
            go_wp2_with fail
            refine (path_calls rest [70, 82, 79, 77, 58] (by omega) (by decide) _ G).mono ?_
            rw [E2.out]
            rintro e w1 ⟨rfl, hb1⟩
            have hw1s := hb1.size
            have hbB : Below w.heap.size w (w1.alloc (.cells #[S a] 9)) := hb1.alloc hb1.size _
            have GB := G.below' hbB
            have hbox0 : (w1.alloc (.cells #[S a] 9)).heap[w1.heap.size]? = some (.cells #[S a] 9 (0, 0)) := heap_alloc_new _ _
            have hcB : (w1.alloc (.cells #[S a] 9)).cell? ⟨w1.heap.size, 0, none⟩ = some (S a) := World.cell?_alloc_new _ _ _ 0
            have HBOX0 := Lib.hid hbox0
            clear hbox0
            go_wp2_with fail
            refine (containsAny_calls (r.take 1) (by rw [List.length_take]; omega) _).mono ?_
            rw [HCA.out]
            rintro e wN ⟨rfl, hbN⟩
            have GN := GB.below' hbN
            go_wp2_with fail
            refine (reply_501 _ GN).mono ?_
            rintro e w6 ⟨rfl, hb6⟩
            go_wp2
            go_ret
            rw [HN.out]
            exact ⟨rfl, (Step.same (H.out.below (below_then' hbB hbN)) (Kept.of_below (below_then' hbB hbN)) G.sz).below hb6 GN.sz⟩
          · have hcond : ¬ ((a ≠ [] ∧ mayL a = false) ∨ (r ≠ [] ∧ Lib.containsAny (r.take 1) blanks = false)) := fun q => q.elim hcondA (fun q => by rw [hca] at q; exact absurd q.2 (by simp))
            have HCA := Lib.hid hca
            clear hca hcondA
            clear ha
            go_enter Tryz.func62, Tryz.ntmps62
            go_wp2_with fail
            refine (path_calls rest [70, 82, 79, 77, 58] (by omega) (by decide) _ G).mono ?_
            rw [E2.out]
            rintro e w1 ⟨rfl, hb1⟩
            have hw1s := hb1.size
            have hbB : Below w.heap.size w (w1.alloc (.cells #[S a] 9)) := hb1.alloc hb1.size _
            have GB := G.below' hbB
            have hbox0 : (w1.alloc (.cells #[S a] 9)).heap[w1.heap.size]? = some (.cells #[S a] 9 (0, 0)) := heap_alloc_new _ _
            have hcB : (w1.alloc (.cells #[S a] 9)).cell? ⟨w1.heap.size, 0, none⟩ = some (S a) := World.cell?_alloc_new _ _ _ 0
            have HBOX0 := Lib.hid hbox0
            clear hbox0
            go_wp2_with fail
            refine (containsAny_calls (r.take 1) (by rw [List.length_take]; omega) _).mono ?_
            rw [HCA.out]
            rintro e wN ⟨rfl, hbN⟩
            have GN := GB.below' hbN
            go_wp2_with fail
            have HBC := Lib.hid ((below_then' hbB hbN))
            have hboxx : ∀ {wx : World}, Below wN.heap.size wN wx → wx.heap[w1.heap.size]? = some (.cells #[S a] 9 (0, 0)) := by
              intro wx hx
              have e0 : Below (w1.alloc (.cells #[S a] 9)).heap.size (w1.alloc (.cells #[S a] 9)) wN := hbN
              have e1 := (e0.block w1.heap.size (by simp)).trans HBOX0.out
              exact (hx.block _ (Array.getElem?_eq_some_iff.1 e1).1).trans e1
            go_loopg [1, 7, 9, 10, 11, 12, 13, 14] r.length (fun g v1 v7 _ _ _ _ _ _ wx => OptR wN.heap.size wN r g v1 v7 wx)
            case atStart => exact ⟨r, 0, [], rfl, rfl, rfl, Nat.le_refl _, Nat.le_refl _, by omega, (Below.refl _ wN).alloc (Nat.le_refl _) _, rfl, heap_alloc_new _ _, (), by omega, by omega⟩
            case round =>
              obtain ⟨r', z, given, rfl, rfl, hrun, hrl', hrr, hr6, hbx, _, hmap, _, hz⟩ := hrel
              have hbw := below_then' HBC.out hbx
              have Gx := G.below' hbw
              have HBW := Lib.hid hbw
              clear hbw
              by_cases hre : r' = []
              · have hsome : optL r = some z := by rw [← hrun, hre]; cases gk <;> rfl
                have HEE : Hid (E = if (s.most : Int) < z then (replyL 552, s) else (replyL 250, { s with sender := some a })) := by unfold Hid; rw [← HE.out]; simp only [mailP, if_neg hcond, hsome]
                have hem : List.isEmpty r' = true := by simp [hre]
                have hre' : (r' = []) = True := by simp [hre]
                have c0 : wr.cell? ⟨b, 0, none⟩ = some (.int .i64 s.most) := (H.out.below HBW.out).cell 0
                have hbox := hboxx hbx
                have HBOX := Lib.hid hbox
                clear hrun hre hsome hcond hmap hbx hbox
                by_cases hbig : (s.most : Int) < z
                · have p1 : decide ((s.most : Int) < z) = true := by simpa using hbig
                  have HN : Hid (E = (replyL 552, s)) := by unfold Hid; rw [HEE.out, if_pos hbig]
                  go_wp2_with fail
                  refine (reply_552 _ Gx).mono ?_
                  rintro e w6 ⟨rfl, hb6⟩
                  go_wp2
                  go_ret
                  rw [HN.out]
                  exact ⟨rfl, (Step.same (H.out.below HBW.out) (Kept.of_below HBW.out) G.sz).below hb6 Gx.sz⟩
                · have p1 : decide ((s.most : Int) < z) = false := by simpa using hbig
                  have HN : Hid (E = (replyL 250, { s with sender := some a })) := by unfold Hid; rw [HEE.out, if_neg hbig]
                  have c4x : wr.cell? ⟨b, 4, none⟩ = some (.pointer none) := by rw [← hsv]; exact (H.out.below HBW.out).cell 4
                  have f4x : wr.frozen? ⟨b, 4, none⟩ = false := (H.out.below HBW.out).frozen 4
                  obtain ⟨hst, hks⟩ := sender_set H.out HBW.out G.sz w1.heap.size hw1s HBOX.out
                  have HST := Lib.hid hst
                  have Gs : Glob (wr.setCell ⟨b, 4, none⟩ (.pointer (some ⟨w1.heap.size, 0, none⟩))) := H.out.glob G hks
                  clear hst hks
                  go_wp2_with fail
                  refine (reply_250 _ Gs).mono ?_
                  rintro e w6 ⟨rfl, hb6⟩
                  go_wp2
                  go_ret
                  rw [HN.out]
                  exact ⟨rfl, HST.out.below hb6 Gs.sz⟩
              · have hem : List.isEmpty r' = false := by simpa using hre
                cases gk with
                | zero => exact absurd (List.eq_nil_of_length_eq_zero (Nat.le_zero.1 hrl')) hre
                | succ g =>
                  obtain ⟨f1, r2, hwd⟩ : ∃ f1 r2, wordL r' = (f1, r2) := ⟨_, _, rfl⟩
                  obtain ⟨pg, hpg⟩ : ∃ pg, greatL f1 = pg := ⟨_, rfl⟩
                  obtain ⟨k, v, fd, hct⟩ : ∃ k v fd, Lib.cut pg [61] = (k, v, fd) := ⟨_, _, _, rfl⟩
                  obtain ⟨n, ok, hpa⟩ : ∃ n ok, parseL v 0 9223372036854775807 = (n, ok) := ⟨_, _, rfl⟩
                  have hwl := word_le r'
                  rw [hwd] at hwl
                  have hpgl : pg.length ≤ 4 * f1.length := by rw [← hpg]; exact greatL_le f1
                  have hvl := cut2_le pg [61]
                  rw [hct] at hvl
                  have hzn : 0 ≤ n ∧ n ≤ 9223372036854775807 := by have := parseL_rng v; rw [hpa] at this; exact this
                  obtain ⟨hrej, hacc⟩ := opt_step (E := E) (s := s) HE.out hcond hrun hre hwd hpg hct hpa
                  have hshort : okB pg k ok = true → r2.length < r'.length := opt_short (n := n) (v := v) (fd := fd) hre hwd hpg hct
                  have HSH := Lib.hid hshort
                  have HWD := Lib.hid hwd
                  have HPG := Lib.hid hpg
                  have HCT := Lib.hid hct
                  have HPA := Lib.hid hpa
                  clear hwd hpg hct hpa hrun hcond hshort
                  have HBX := Lib.hid hbx
                  have HMP := Lib.hid hmap
                  clear hbx hmap
                  go_wp2_with fail
                  refine (word_calls r' (by omega) _).mono ?_
                  rw [HWD.out]
                  rintro e w2 ⟨rfl, hb2⟩
                  have G2 := Gx.below' hb2
                  go_wp2_with fail
                  refine (great_calls f1 (by omega) _ G2).mono ?_
                  rw [HPG.out]
                  rintro e w3 ⟨rfl, hb3⟩
                  have G3 := G2.below' hb3
                  obtain ⟨m, hm2⟩ := G3.ml
                  go_wp2_with fail
                  refine (Tryz.strings_Cut ⟨pg.toArray⟩ ⟨#[61]⟩ m _ (by show pg.length < _; omega) hm2).mono ?_
                  show ∀ e w', e = Ending.returned (.tuple #[S (Lib.cut pg [61]).1, S (Lib.cut pg [61]).2.1, .bool (Lib.cut pg [61]).2.2]) ∧ _ → _
                  rw [HCT.out]
                  rintro e w4 ⟨rfl, n4, hw4⟩
                  rw [hw4]
                  have hb4 : Below w3.heap.size w3 (w3.drewN n4) := below_drewN' (Below.refl _ _) n4
                  have G4 := G3.below' hb4
                  clear hw4 w4
                  go_wp2_with fail
                  refine (parse_calls v 0 9223372036854775807 (by omega) _ G4).mono ?_
                  rw [HPA.out]
                  rintro e w5 ⟨rfl, hb5⟩
                  have G5 := G4.below' hb5
                  have hb25 := below_then' (below_then' (below_then' hb2 hb3) hb4) hb5
                  have HB5 := Lib.hid (below_then' HBW.out hb25)
                  have HB5C := Lib.hid (below_then' HBX.out hb25)
                  have HM5 : Hid (w5.heap[wN.heap.size]? = some (.map (entsOf given) given.length)) := (hb25.block wN.heap.size (Array.getElem?_eq_some_iff.1 HMP.out).1).trans HMP.out
                  have hlk := lookup_given HM5.out k
                  clear hb2 hb3 hb4 hb5 hb25 hm2
                  cases hcn : given.contains k
                  · rw [hcn] at hlk
                    by_cases hk1 : k = sizeB
                    · have hk2 : (k == sizeB) = true := by simp [hk1]
                      have hk3 : (k == [83, 73, 90, 69]) = true := hk2
                      have HK1 := Lib.hid hk1
                      clear hk1
                      cases hok : ok
                      · cases h3 : (pg == [66, 79, 68, 89, 61, 55, 66, 73, 84])
                        · cases h4 : (pg == [66, 79, 68, 89, 61, 56, 66, 73, 84, 77, 73, 77, 69])
                          · have HN := hrej (by rw [hcn]; first | rfl | simp [okB, hk2, hok, h3, h4])
                            clear hacc hrej
                            go_wp2_with fail
                            refine (reply_501 _ G5).mono ?_
                            rintro e w6 ⟨rfl, hb6⟩
                            go_wp2
                            go_ret
                            rw [HN.out]
                            exact ⟨rfl, (Step.same (H.out.below HB5.out) (Kept.of_below HB5.out) G.sz).below hb6 G5.sz⟩
                          · have hsh : r2.length < r'.length := HSH.out (by simp [okB, hk2, hok, h3, h4])
                            have HR := hacc (by rw [hcn]; simp [okB, hk2, hok, h3, h4]) n (by rw [if_pos HK1.out])
                            have HC0 := Lib.hid hcn
                            clear hacc hrej
                            obtain ⟨w6, hup, hin⟩ := run_insert_at (P := Tryz.prog) (w := w5) 106 9 4 Tryz.underlying106 Tryz.underlying9 wN.heap.size _ _ HM5.out (S k) (.bool true) ((find_ents k given 0 0).1 HC0.out)
                            have HI := Lib.hid hin
                            clear hin
                            go_wp2
                            go_roundg g
                            case measure => omega
                            case rel => exact optR_next HB5C.out HI.out rfl HR.out (by omega) (by omega) (by omega) (by omega)
                        · have hsh : r2.length < r'.length := HSH.out (by simp [okB, hk2, hok, h3])
                          have HR := hacc (by rw [hcn]; simp [okB, hk2, hok, h3]) n (by rw [if_pos HK1.out])
                          have HC0 := Lib.hid hcn
                          clear hacc hrej
                          obtain ⟨w6, hup, hin⟩ := run_insert_at (P := Tryz.prog) (w := w5) 106 9 4 Tryz.underlying106 Tryz.underlying9 wN.heap.size _ _ HM5.out (S k) (.bool true) ((find_ents k given 0 0).1 HC0.out)
                          have HI := Lib.hid hin
                          clear hin
                          go_wp2
                          go_roundg g
                          case measure => omega
                          case rel => exact optR_next HB5C.out HI.out rfl HR.out (by omega) (by omega) (by omega) (by omega)
                      · have hsh : r2.length < r'.length := HSH.out (by simp [okB, hk2, hok])
                        have HR := hacc (by rw [hcn]; simp [okB, hk2, hok]) n (by rw [if_pos HK1.out])
                        have HC0 := Lib.hid hcn
                        clear hacc hrej
                        obtain ⟨w6, hup, hin⟩ := run_insert_at (P := Tryz.prog) (w := w5) 106 9 4 Tryz.underlying106 Tryz.underlying9 wN.heap.size _ _ HM5.out (S k) (.bool true) ((find_ents k given 0 0).1 HC0.out)
                        have HI := Lib.hid hin
                        clear hin
                        go_wp2
                        go_roundg g
                        case measure => omega
                        case rel => exact optR_next HB5C.out HI.out rfl HR.out (by omega) (by omega) (by omega) (by omega)
                    · have hk2 : (k == sizeB) = false := by simpa using hk1
                      have hk3 : (k == [83, 73, 90, 69]) = false := hk2
                      have HK1 := Lib.hid hk1
                      clear hk1
                      cases h3 : (pg == [66, 79, 68, 89, 61, 55, 66, 73, 84])
                      · cases h4 : (pg == [66, 79, 68, 89, 61, 56, 66, 73, 84, 77, 73, 77, 69])
                        · have HN := hrej (by rw [hcn]; first | rfl | simp [okB, hk2, h3, h4])
                          clear hacc hrej
                          go_wp2_with fail
                          refine (reply_501 _ G5).mono ?_
                          rintro e w6 ⟨rfl, hb6⟩
                          go_wp2
                          go_ret
                          rw [HN.out]
                          exact ⟨rfl, (Step.same (H.out.below HB5.out) (Kept.of_below HB5.out) G.sz).below hb6 G5.sz⟩
                        · have hsh : r2.length < r'.length := HSH.out (by simp [okB, hk2, h3, h4])
                          have HR := hacc (by rw [hcn]; simp [okB, hk2, h3, h4]) z (by rw [if_neg HK1.out])
                          have HC0 := Lib.hid hcn
                          clear hacc hrej
                          obtain ⟨w6, hup, hin⟩ := run_insert_at (P := Tryz.prog) (w := w5) 106 9 4 Tryz.underlying106 Tryz.underlying9 wN.heap.size _ _ HM5.out (S k) (.bool true) ((find_ents k given 0 0).1 HC0.out)
                          have HI := Lib.hid hin
                          clear hin
                          go_wp2
                          go_roundg g
                          case measure => omega
                          case rel => exact optR_next HB5C.out HI.out rfl HR.out (by omega) (by omega) (by omega) (by omega)
                      · have hsh : r2.length < r'.length := HSH.out (by simp [okB, hk2, h3])
                        have HR := hacc (by rw [hcn]; simp [okB, hk2, h3]) z (by rw [if_neg HK1.out])
                        have HC0 := Lib.hid hcn
                        clear hacc hrej
                        obtain ⟨w6, hup, hin⟩ := run_insert_at (P := Tryz.prog) (w := w5) 106 9 4 Tryz.underlying106 Tryz.underlying9 wN.heap.size _ _ HM5.out (S k) (.bool true) ((find_ents k given 0 0).1 HC0.out)
                        have HI := Lib.hid hin
                        clear hin
                        go_wp2
                        go_roundg g
                        case measure => omega
                        case rel => exact optR_next HB5C.out HI.out rfl HR.out (by omega) (by omega) (by omega) (by omega)
                  · rw [hcn] at hlk
                    have HN := hrej (by rw [hcn]; first | rfl | simp [okB, ])
                    clear hacc hrej
                    go_wp2_with fail
                    refine (reply_501 _ G5).mono ?_
                    rintro e w6 ⟨rfl, hb6⟩
                    go_wp2
                    go_ret
                    rw [HN.out]
                    exact ⟨rfl, (Step.same (H.out.below HB5.out) (Kept.of_below HB5.out) G.sz).below hb6 G5.sz⟩
      · cases hmy : mayL a
        · have haem : List.isEmpty a = false := by simpa using ha
          have HN : Hid (E = (replyL 501, s)) := by unfold Hid; rw [← HE.out]; simp only [mailP]; rw [if_pos (.inl ⟨ha, hmy⟩)]
          have HMY := Lib.hid hmy
          clear hmy
          go_enter Tryz.func62, Tryz.ntmps62
          go_wp2_with fail
          refine (path_calls rest [70, 82, 79, 77, 58] (by omega) (by decide) _ G).mono ?_
          rw [E2.out]
          rintro e w1 ⟨rfl, hb1⟩
          have hw1s := hb1.size
          have hbB : Below w.heap.size w (w1.alloc (.cells #[S a] 9)) := hb1.alloc hb1.size _
          have GB := G.below' hbB
          have hbox0 : (w1.alloc (.cells #[S a] 9)).heap[w1.heap.size]? = some (.cells #[S a] 9 (0, 0)) := heap_alloc_new _ _
          have hcB : (w1.alloc (.cells #[S a] 9)).cell? ⟨w1.heap.size, 0, none⟩ = some (S a) := World.cell?_alloc_new _ _ _ 0
          have HBOX0 := Lib.hid hbox0
          clear hbox0
          go_wp2_with fail
          refine (may_calls a (by omega) _ GB).mono ?_
          rw [HMY.out]
          rintro e wM ⟨rfl, hbM⟩
          have GM := GB.below' hbM
          go_wp2_with fail
          refine (reply_501 _ GM).mono ?_
          rintro e w6 ⟨rfl, hb6⟩
          go_wp2
          go_ret
          rw [HN.out]
          exact ⟨rfl, (Step.same (H.out.below (below_then' hbB hbM)) (Kept.of_below (below_then' hbB hbM)) G.sz).below hb6 GM.sz⟩
        · have haem : List.isEmpty a = false := by simpa using ha
          have hcondA : ¬ (a ≠ [] ∧ mayL a = false) := fun q => (by rw [hmy] at q; exact absurd q.2 (by simp))
          by_cases hr0 : r = []
          · have hcond : ¬ ((a ≠ [] ∧ mayL a = false) ∨ (r ≠ [] ∧ Lib.containsAny (r.take 1) blanks = false)) := fun q => q.elim hcondA (fun q => q.1 hr0)
            have hrz : (r = []) = True := by simp [hr0]
            have hrem : List.isEmpty r = true := by simp [hr0]
            have hrl0 : r.length = 0 := by rw [hr0]; rfl
            have HMY := Lib.hid hmy
            clear hmy
            clear hcondA hr0
            go_enter Tryz.func62, Tryz.ntmps62
            go_wp2_with fail
            refine (path_calls rest [70, 82, 79, 77, 58] (by omega) (by decide) _ G).mono ?_
            rw [E2.out]
            rintro e w1 ⟨rfl, hb1⟩
            have hw1s := hb1.size
            have hbB : Below w.heap.size w (w1.alloc (.cells #[S a] 9)) := hb1.alloc hb1.size _
            have GB := G.below' hbB
            have hbox0 : (w1.alloc (.cells #[S a] 9)).heap[w1.heap.size]? = some (.cells #[S a] 9 (0, 0)) := heap_alloc_new _ _
            have hcB : (w1.alloc (.cells #[S a] 9)).cell? ⟨w1.heap.size, 0, none⟩ = some (S a) := World.cell?_alloc_new _ _ _ 0
            have HBOX0 := Lib.hid hbox0
            clear hbox0
            go_wp2_with fail
            refine (may_calls a (by omega) _ GB).mono ?_
            rw [HMY.out]
            rintro e wM ⟨rfl, hbM⟩
            have GM := GB.below' hbM
            go_wp2_with fail
            have HBC := Lib.hid ((below_then' hbB hbM))
            have hboxx : ∀ {wx : World}, Below wM.heap.size wM wx → wx.heap[w1.heap.size]? = some (.cells #[S a] 9 (0, 0)) := by
              intro wx hx
              have e0 : Below (w1.alloc (.cells #[S a] 9)).heap.size (w1.alloc (.cells #[S a] 9)) wM := hbM
              have e1 := (e0.block w1.heap.size (by simp)).trans HBOX0.out
              exact (hx.block _ (Array.getElem?_eq_some_iff.1 e1).1).trans e1
            go_loopg [1, 7, 9, 10, 11, 12, 13, 14] r.length (fun g v1 v7 _ _ _ _ _ _ wx => OptR wM.heap.size wM r g v1 v7 wx)
            case atStart => exact ⟨r, 0, [], rfl, rfl, rfl, Nat.le_refl _, Nat.le_refl _, by omega, (Below.refl _ wM).alloc (Nat.le_refl _) _, rfl, heap_alloc_new _ _, (), by omega, by omega⟩
            case round =>
              obtain ⟨r', z, given, rfl, rfl, hrun, hrl', hrr, hr6, hbx, _, hmap, _, hz⟩ := hrel
              have hbw := below_then' HBC.out hbx
              have Gx := G.below' hbw
              have HBW := Lib.hid hbw
              clear hbw
              by_cases hre : r' = []
              · have hsome : optL r = some z := by rw [← hrun, hre]; cases gk <;> rfl
                have HEE : Hid (E = if (s.most : Int) < z then (replyL 552, s) else (replyL 250, { s with sender := some a })) := by unfold Hid; rw [← HE.out]; simp only [mailP, if_neg hcond, hsome]
                have hem : List.isEmpty r' = true := by simp [hre]
                have hre' : (r' = []) = True := by simp [hre]
                have c0 : wr.cell? ⟨b, 0, none⟩ = some (.int .i64 s.most) := (H.out.below HBW.out).cell 0
                have hbox := hboxx hbx
                have HBOX := Lib.hid hbox
                clear hrun hre hsome hcond hmap hbx hbox
                by_cases hbig : (s.most : Int) < z
                · have p1 : decide ((s.most : Int) < z) = true := by simpa using hbig
                  have HN : Hid (E = (replyL 552, s)) := by unfold Hid; rw [HEE.out, if_pos hbig]
                  go_wp2_with fail
                  refine (reply_552 _ Gx).mono ?_
                  rintro e w6 ⟨rfl, hb6⟩
                  go_wp2
                  go_ret
                  rw [HN.out]
                  exact ⟨rfl, (Step.same (H.out.below HBW.out) (Kept.of_below HBW.out) G.sz).below hb6 Gx.sz⟩
                · have p1 : decide ((s.most : Int) < z) = false := by simpa using hbig
                  have HN : Hid (E = (replyL 250, { s with sender := some a })) := by unfold Hid; rw [HEE.out, if_neg hbig]
                  have c4x : wr.cell? ⟨b, 4, none⟩ = some (.pointer none) := by rw [← hsv]; exact (H.out.below HBW.out).cell 4
                  have f4x : wr.frozen? ⟨b, 4, none⟩ = false := (H.out.below HBW.out).frozen 4
                  obtain ⟨hst, hks⟩ := sender_set H.out HBW.out G.sz w1.heap.size hw1s HBOX.out
                  have HST := Lib.hid hst
                  have Gs : Glob (wr.setCell ⟨b, 4, none⟩ (.pointer (some ⟨w1.heap.size, 0, none⟩))) := H.out.glob G hks
                  clear hst hks
                  go_wp2_with fail
                  refine (reply_250 _ Gs).mono ?_
                  rintro e w6 ⟨rfl, hb6⟩
                  go_wp2
                  go_ret
                  rw [HN.out]
                  exact ⟨rfl, HST.out.below hb6 Gs.sz⟩
              · exact absurd (List.eq_nil_of_length_eq_zero (by omega)) hre
          · have hrem : List.isEmpty r = false := by simpa using hr0
            have hr1 : (1 : Int) ≤ (r.length : Int) := by have := List.length_pos_iff.2 hr0; omega
            cases hca : Lib.containsAny (r.take 1) blanks
            · have HN : Hid (E = (replyL 501, s)) := by unfold Hid; rw [← HE.out]; simp only [mailP]; rw [if_pos (.inr ⟨hr0, hca⟩)]
              have HCA := Lib.hid hca
              have HMY := Lib.hid hmy
              clear hmy
              clear hca hcondA
              go_enter Tryz.func62, Tryz.ntmps62
              go_wp2_with fail
              refine (path_calls rest [70, 82, 79, 77, 58] (by omega) (by decide) _ G).mono ?_
              rw [E2.out]
              rintro e w1 ⟨rfl, hb1⟩
              have hw1s := hb1.size
              have hbB : Below w.heap.size w (w1.alloc (.cells #[S a] 9)) := hb1.alloc hb1.size _
              have GB := G.below' hbB
              have hbox0 : (w1.alloc (.cells #[S a] 9)).heap[w1.heap.size]? = some (.cells #[S a] 9 (0, 0)) := heap_alloc_new _ _
              have hcB : (w1.alloc (.cells #[S a] 9)).cell? ⟨w1.heap.size, 0, none⟩ = some (S a) := World.cell?_alloc_new _ _ _ 0
              have HBOX0 := Lib.hid hbox0
              clear hbox0
              go_wp2_with fail
              refine (may_calls a (by omega) _ GB).mono ?_
              rw [HMY.out]
              rintro e wM ⟨rfl, hbM⟩
              have GM := GB.below' hbM
              go_wp2_with fail
              refine (containsAny_calls (r.take 1) (by rw [List.length_take]; omega) _).mono ?_
              rw [HCA.out]
              rintro e wN ⟨rfl, hbN⟩
              have GN := GM.below' hbN
              go_wp2_with fail
              refine (reply_501 _ GN).mono ?_
              rintro e w6 ⟨rfl, hb6⟩
              go_wp2
              go_ret
              rw [HN.out]
              exact ⟨rfl, (Step.same (H.out.below (below_then' (below_then' hbB hbM) hbN)) (Kept.of_below (below_then' (below_then' hbB hbM) hbN)) G.sz).below hb6 GN.sz⟩
            · have hcond : ¬ ((a ≠ [] ∧ mayL a = false) ∨ (r ≠ [] ∧ Lib.containsAny (r.take 1) blanks = false)) := fun q => q.elim hcondA (fun q => by rw [hca] at q; exact absurd q.2 (by simp))
              have HCA := Lib.hid hca
              have HMY := Lib.hid hmy
              clear hmy
              clear hca hcondA
              go_enter Tryz.func62, Tryz.ntmps62
              go_wp2_with fail
              refine (path_calls rest [70, 82, 79, 77, 58] (by omega) (by decide) _ G).mono ?_
              rw [E2.out]
              rintro e w1 ⟨rfl, hb1⟩
              have hw1s := hb1.size
              have hbB : Below w.heap.size w (w1.alloc (.cells #[S a] 9)) := hb1.alloc hb1.size _
              have GB := G.below' hbB
              have hbox0 : (w1.alloc (.cells #[S a] 9)).heap[w1.heap.size]? = some (.cells #[S a] 9 (0, 0)) := heap_alloc_new _ _
              have hcB : (w1.alloc (.cells #[S a] 9)).cell? ⟨w1.heap.size, 0, none⟩ = some (S a) := World.cell?_alloc_new _ _ _ 0
              have HBOX0 := Lib.hid hbox0
              clear hbox0
              go_wp2_with fail
              refine (may_calls a (by omega) _ GB).mono ?_
              rw [HMY.out]
              rintro e wM ⟨rfl, hbM⟩
              have GM := GB.below' hbM
              go_wp2_with fail
              refine (containsAny_calls (r.take 1) (by rw [List.length_take]; omega) _).mono ?_
              rw [HCA.out]
              rintro e wN ⟨rfl, hbN⟩
              have GN := GM.below' hbN
              go_wp2_with fail
              have HBC := Lib.hid ((below_then' (below_then' hbB hbM) hbN))
              have hboxx : ∀ {wx : World}, Below wN.heap.size wN wx → wx.heap[w1.heap.size]? = some (.cells #[S a] 9 (0, 0)) := by
                intro wx hx
                have e0 : Below (w1.alloc (.cells #[S a] 9)).heap.size (w1.alloc (.cells #[S a] 9)) wN := (below_then' hbM hbN)
                have e1 := (e0.block w1.heap.size (by simp)).trans HBOX0.out
                exact (hx.block _ (Array.getElem?_eq_some_iff.1 e1).1).trans e1
              go_loopg [1, 7, 9, 10, 11, 12, 13, 14] r.length (fun g v1 v7 _ _ _ _ _ _ wx => OptR wN.heap.size wN r g v1 v7 wx)
              case atStart => exact ⟨r, 0, [], rfl, rfl, rfl, Nat.le_refl _, Nat.le_refl _, by omega, (Below.refl _ wN).alloc (Nat.le_refl _) _, rfl, heap_alloc_new _ _, (), by omega, by omega⟩
              case round =>
                obtain ⟨r', z, given, rfl, rfl, hrun, hrl', hrr, hr6, hbx, _, hmap, _, hz⟩ := hrel
                have hbw := below_then' HBC.out hbx
                have Gx := G.below' hbw
                have HBW := Lib.hid hbw
                clear hbw
                by_cases hre : r' = []
                · have hsome : optL r = some z := by rw [← hrun, hre]; cases gk <;> rfl
                  have HEE : Hid (E = if (s.most : Int) < z then (replyL 552, s) else (replyL 250, { s with sender := some a })) := by unfold Hid; rw [← HE.out]; simp only [mailP, if_neg hcond, hsome]
                  have hem : List.isEmpty r' = true := by simp [hre]
                  have hre' : (r' = []) = True := by simp [hre]
                  have c0 : wr.cell? ⟨b, 0, none⟩ = some (.int .i64 s.most) := (H.out.below HBW.out).cell 0
                  have hbox := hboxx hbx
                  have HBOX := Lib.hid hbox
                  clear hrun hre hsome hcond hmap hbx hbox
                  by_cases hbig : (s.most : Int) < z
                  · have p1 : decide ((s.most : Int) < z) = true := by simpa using hbig
                    have HN : Hid (E = (replyL 552, s)) := by unfold Hid; rw [HEE.out, if_pos hbig]
                    go_wp2_with fail
                    refine (reply_552 _ Gx).mono ?_
                    rintro e w6 ⟨rfl, hb6⟩
                    go_wp2
                    go_ret
                    rw [HN.out]
                    exact ⟨rfl, (Step.same (H.out.below HBW.out) (Kept.of_below HBW.out) G.sz).below hb6 Gx.sz⟩
                  · have p1 : decide ((s.most : Int) < z) = false := by simpa using hbig
                    have HN : Hid (E = (replyL 250, { s with sender := some a })) := by unfold Hid; rw [HEE.out, if_neg hbig]
                    have c4x : wr.cell? ⟨b, 4, none⟩ = some (.pointer none) := by rw [← hsv]; exact (H.out.below HBW.out).cell 4
                    have f4x : wr.frozen? ⟨b, 4, none⟩ = false := (H.out.below HBW.out).frozen 4
                    obtain ⟨hst, hks⟩ := sender_set H.out HBW.out G.sz w1.heap.size hw1s HBOX.out
                    have HST := Lib.hid hst
                    have Gs : Glob (wr.setCell ⟨b, 4, none⟩ (.pointer (some ⟨w1.heap.size, 0, none⟩))) := H.out.glob G hks
                    clear hst hks
                    go_wp2_with fail
                    refine (reply_250 _ Gs).mono ?_
                    rintro e w6 ⟨rfl, hb6⟩
                    go_wp2
                    go_ret
                    rw [HN.out]
                    exact ⟨rfl, HST.out.below hb6 Gs.sz⟩
                · have hem : List.isEmpty r' = false := by simpa using hre
                  cases gk with
                  | zero => exact absurd (List.eq_nil_of_length_eq_zero (Nat.le_zero.1 hrl')) hre
                  | succ g =>
                    obtain ⟨f1, r2, hwd⟩ : ∃ f1 r2, wordL r' = (f1, r2) := ⟨_, _, rfl⟩
                    obtain ⟨pg, hpg⟩ : ∃ pg, greatL f1 = pg := ⟨_, rfl⟩
                    obtain ⟨k, v, fd, hct⟩ : ∃ k v fd, Lib.cut pg [61] = (k, v, fd) := ⟨_, _, _, rfl⟩
                    obtain ⟨n, ok, hpa⟩ : ∃ n ok, parseL v 0 9223372036854775807 = (n, ok) := ⟨_, _, rfl⟩
                    have hwl := word_le r'
                    rw [hwd] at hwl
                    have hpgl : pg.length ≤ 4 * f1.length := by rw [← hpg]; exact greatL_le f1
                    have hvl := cut2_le pg [61]
                    rw [hct] at hvl
                    have hzn : 0 ≤ n ∧ n ≤ 9223372036854775807 := by have := parseL_rng v; rw [hpa] at this; exact this
                    obtain ⟨hrej, hacc⟩ := opt_step (E := E) (s := s) HE.out hcond hrun hre hwd hpg hct hpa
                    have hshort : okB pg k ok = true → r2.length < r'.length := opt_short (n := n) (v := v) (fd := fd) hre hwd hpg hct
                    have HSH := Lib.hid hshort
                    have HWD := Lib.hid hwd
                    have HPG := Lib.hid hpg
                    have HCT := Lib.hid hct
                    have HPA := Lib.hid hpa
                    clear hwd hpg hct hpa hrun hcond hshort
                    have HBX := Lib.hid hbx
                    have HMP := Lib.hid hmap
                    clear hbx hmap
                    go_wp2_with fail
                    refine (word_calls r' (by omega) _).mono ?_
                    rw [HWD.out]
                    rintro e w2 ⟨rfl, hb2⟩
                    have G2 := Gx.below' hb2
                    go_wp2_with fail
                    refine (great_calls f1 (by omega) _ G2).mono ?_
                    rw [HPG.out]
                    rintro e w3 ⟨rfl, hb3⟩
                    have G3 := G2.below' hb3
                    obtain ⟨m, hm2⟩ := G3.ml
                    go_wp2_with fail
                    refine (Tryz.strings_Cut ⟨pg.toArray⟩ ⟨#[61]⟩ m _ (by show pg.length < _; omega) hm2).mono ?_
                    show ∀ e w', e = Ending.returned (.tuple #[S (Lib.cut pg [61]).1, S (Lib.cut pg [61]).2.1, .bool (Lib.cut pg [61]).2.2]) ∧ _ → _
                    rw [HCT.out]
                    rintro e w4 ⟨rfl, n4, hw4⟩
                    rw [hw4]
                    have hb4 : Below w3.heap.size w3 (w3.drewN n4) := below_drewN' (Below.refl _ _) n4
                    have G4 := G3.below' hb4
                    clear hw4 w4
                    go_wp2_with fail
                    refine (parse_calls v 0 9223372036854775807 (by omega) _ G4).mono ?_
                    rw [HPA.out]
                    rintro e w5 ⟨rfl, hb5⟩
                    have G5 := G4.below' hb5
                    have hb25 := below_then' (below_then' (below_then' hb2 hb3) hb4) hb5
                    have HB5 := Lib.hid (below_then' HBW.out hb25)
                    have HB5C := Lib.hid (below_then' HBX.out hb25)
                    have HM5 : Hid (w5.heap[wN.heap.size]? = some (.map (entsOf given) given.length)) := (hb25.block wN.heap.size (Array.getElem?_eq_some_iff.1 HMP.out).1).trans HMP.out
                    have hlk := lookup_given HM5.out k
                    clear hb2 hb3 hb4 hb5 hb25 hm2
                    cases hcn : given.contains k
                    · rw [hcn] at hlk
                      by_cases hk1 : k = sizeB
                      · have hk2 : (k == sizeB) = true := by simp [hk1]
                        have hk3 : (k == [83, 73, 90, 69]) = true := hk2
                        have HK1 := Lib.hid hk1
                        clear hk1
                        cases hok : ok
                        · cases h3 : (pg == [66, 79, 68, 89, 61, 55, 66, 73, 84])
                          · cases h4 : (pg == [66, 79, 68, 89, 61, 56, 66, 73, 84, 77, 73, 77, 69])
                            · have HN := hrej (by rw [hcn]; first | rfl | simp [okB, hk2, hok, h3, h4])
                              clear hacc hrej
                              go_wp2_with fail
                              refine (reply_501 _ G5).mono ?_
                              rintro e w6 ⟨rfl, hb6⟩
                              go_wp2
                              go_ret
                              rw [HN.out]
                              exact ⟨rfl, (Step.same (H.out.below HB5.out) (Kept.of_below HB5.out) G.sz).below hb6 G5.sz⟩
                            · have hsh : r2.length < r'.length := HSH.out (by simp [okB, hk2, hok, h3, h4])
                              have HR := hacc (by rw [hcn]; simp [okB, hk2, hok, h3, h4]) n (by rw [if_pos HK1.out])
                              have HC0 := Lib.hid hcn
                              clear hacc hrej
                              obtain ⟨w6, hup, hin⟩ := run_insert_at (P := Tryz.prog) (w := w5) 106 9 4 Tryz.underlying106 Tryz.underlying9 wN.heap.size _ _ HM5.out (S k) (.bool true) ((find_ents k given 0 0).1 HC0.out)
                              have HI := Lib.hid hin
                              clear hin
                              go_wp2
                              go_roundg g
                              case measure => omega
                              case rel => exact optR_next HB5C.out HI.out rfl HR.out (by omega) (by omega) (by omega) (by omega)
                          · have hsh : r2.length < r'.length := HSH.out (by simp [okB, hk2, hok, h3])
                            have HR := hacc (by rw [hcn]; simp [okB, hk2, hok, h3]) n (by rw [if_pos HK1.out])
                            have HC0 := Lib.hid hcn
                            clear hacc hrej
                            obtain ⟨w6, hup, hin⟩ := run_insert_at (P := Tryz.prog) (w := w5) 106 9 4 Tryz.underlying106 Tryz.underlying9 wN.heap.size _ _ HM5.out (S k) (.bool true) ((find_ents k given 0 0).1 HC0.out)
                            have HI := Lib.hid hin
                            clear hin
                            go_wp2
                            go_roundg g
                            case measure => omega
                            case rel => exact optR_next HB5C.out HI.out rfl HR.out (by omega) (by omega) (by omega) (by omega)
                        · have hsh : r2.length < r'.length := HSH.out (by simp [okB, hk2, hok])
                          have HR := hacc (by rw [hcn]; simp [okB, hk2, hok]) n (by rw [if_pos HK1.out])
                          have HC0 := Lib.hid hcn
                          clear hacc hrej
                          obtain ⟨w6, hup, hin⟩ := run_insert_at (P := Tryz.prog) (w := w5) 106 9 4 Tryz.underlying106 Tryz.underlying9 wN.heap.size _ _ HM5.out (S k) (.bool true) ((find_ents k given 0 0).1 HC0.out)
                          have HI := Lib.hid hin
                          clear hin
                          go_wp2
                          go_roundg g
                          case measure => omega
                          case rel => exact optR_next HB5C.out HI.out rfl HR.out (by omega) (by omega) (by omega) (by omega)
                      · have hk2 : (k == sizeB) = false := by simpa using hk1
                        have hk3 : (k == [83, 73, 90, 69]) = false := hk2
                        have HK1 := Lib.hid hk1
                        clear hk1
                        cases h3 : (pg == [66, 79, 68, 89, 61, 55, 66, 73, 84])
                        · cases h4 : (pg == [66, 79, 68, 89, 61, 56, 66, 73, 84, 77, 73, 77, 69])
                          · have HN := hrej (by rw [hcn]; first | rfl | simp [okB, hk2, h3, h4])
                            clear hacc hrej
                            go_wp2_with fail
                            refine (reply_501 _ G5).mono ?_
                            rintro e w6 ⟨rfl, hb6⟩
                            go_wp2
                            go_ret
                            rw [HN.out]
                            exact ⟨rfl, (Step.same (H.out.below HB5.out) (Kept.of_below HB5.out) G.sz).below hb6 G5.sz⟩
                          · have hsh : r2.length < r'.length := HSH.out (by simp [okB, hk2, h3, h4])
                            have HR := hacc (by rw [hcn]; simp [okB, hk2, h3, h4]) z (by rw [if_neg HK1.out])
                            have HC0 := Lib.hid hcn
                            clear hacc hrej
                            obtain ⟨w6, hup, hin⟩ := run_insert_at (P := Tryz.prog) (w := w5) 106 9 4 Tryz.underlying106 Tryz.underlying9 wN.heap.size _ _ HM5.out (S k) (.bool true) ((find_ents k given 0 0).1 HC0.out)
                            have HI := Lib.hid hin
                            clear hin
                            go_wp2
                            go_roundg g
                            case measure => omega
                            case rel => exact optR_next HB5C.out HI.out rfl HR.out (by omega) (by omega) (by omega) (by omega)
                        · have hsh : r2.length < r'.length := HSH.out (by simp [okB, hk2, h3])
                          have HR := hacc (by rw [hcn]; simp [okB, hk2, h3]) z (by rw [if_neg HK1.out])
                          have HC0 := Lib.hid hcn
                          clear hacc hrej
                          obtain ⟨w6, hup, hin⟩ := run_insert_at (P := Tryz.prog) (w := w5) 106 9 4 Tryz.underlying106 Tryz.underlying9 wN.heap.size _ _ HM5.out (S k) (.bool true) ((find_ents k given 0 0).1 HC0.out)
                          have HI := Lib.hid hin
                          clear hin
                          go_wp2
                          go_roundg g
                          case measure => omega
                          case rel => exact optR_next HB5C.out HI.out rfl HR.out (by omega) (by omega) (by omega) (by omega)
                    · rw [hcn] at hlk
                      have HN := hrej (by rw [hcn]; first | rfl | simp [okB, ])
                      clear hacc hrej
                      go_wp2_with fail
                      refine (reply_501 _ G5).mono ?_
                      rintro e w6 ⟨rfl, hb6⟩
                      go_wp2
                      go_ret
                      rw [HN.out]
                      exact ⟨rfl, (Step.same (H.out.below HB5.out) (Kept.of_below HB5.out) G.sz).below hb6 G5.sz⟩
end Go.Proofs.YtapanjfheddfnaaGreatDoor
