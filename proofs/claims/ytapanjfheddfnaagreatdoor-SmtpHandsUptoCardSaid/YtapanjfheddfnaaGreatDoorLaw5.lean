/- SmtpHello: the walk. -/
import Derived.Test.YtapanjfheddfnaaGreatDoorTwo
import Derived.Test.YtapanjfheddfnaaGreatDoorLaw4
namespace Go.Proofs.YtapanjfheddfnaaGreatDoor
open Go.RowKit Go.Shelf
attribute [local go_sem high] ext_to ext_from
attribute [local go_sem] ext_list app_list size_list

theorem runF_kept : ∀ (n : Nat) (s : Sess) (out : Bs), (runF n s out).2.kept.length ≤ s.kept.length ∧ (s.waits = false → (runF n s out).2.waits = true → (runF n s out).2.kept.length < s.kept.length)
  | 0, s, out => ⟨Nat.le_refl _, fun h q => by rw [show (runF 0 s out).2.waits = s.waits from rfl, h] at q; cases q⟩
  | n + 1, s, out => by
    cases hk : s.kept with
    | nil =>
      have e1 : runF (n + 1) s out = (out, s) := by unfold runF; rw [hk]
      rw [e1]
      exact ⟨by rw [hk]; exact Nat.le_refl _, fun h q => by rw [h] at q; cases q⟩
    | cons x ks =>
      have e1 : runF (n + 1) s out = if s.waits || s.over then (out, s) else runF n (turnS { s with kept := ks } x).2 (out ++ (turnS { s with kept := ks } x).1) := by conv => lhs; unfold runF; rw [hk]
      rw [e1]
      split
      · exact ⟨by rw [hk]; exact Nat.le_refl _, fun h q => by rw [h] at q; cases q⟩
      · have e2 : (turnS { s with kept := ks } x).2.kept = ks := by
          have := turn_withK ks s x
          unfold withK at this
          rw [this]
        have ih := (runF_kept n (turnS { s with kept := ks } x).2 (out ++ (turnS { s with kept := ks } x).1)).1
        rw [e2] at ih
        simp only [List.length_cons]
        exact ⟨by omega, fun _ _ => by omega⟩
theorem feed_kept (s : Sess) (c : Bs) : (feedS s c).2.kept.length ≤ s.kept.length + c.length := by
  have := (runF_kept (pushedS s c).kept.length (pushedS s c) []).1
  have e : (pushedS s c).kept.length ≤ s.kept.length + c.length := by
    have := pushL_len s.rest c
    unfold pushedS
    simp only [List.length_append]
    omega
  unfold feedS
  omega
theorem feed_less (s : Sess) (h : s.waits = false) (q : (feedS s []).2.waits = true) : (feedS s []).2.kept.length < s.kept.length := by
  rw [feed_nil] at q ⊢
  exact (runF_kept s.kept.length s []).2 h q
def QIn (w : World) (bs bt : Nat) (t : Sess) (R : Sess) (T : Nat) (g : Nat) (v13 v14 : Value) (wx : World) : Prop :=
  ∃ (k : Nat) (s : Sess), k + g = 3100 ∧ v13 = .bool s.waits ∧ v14 = .int .i64 k ∧ quietF g 1 s = R ∧ Ok s T ∧ k ≤ 3001 ∧ (s.waits = true → k + s.kept.length ≤ 3000) ∧ Two w bs bt s t wx
theorem MailsAt.len {W : World} {vm : Value} {ms : List Mail} {M : Nat → Prop} (h : MailsAt W vm ms M) : ms.length ≤ 9223372036854775807 := by
  obtain ⟨vs, _, ho, _⟩ := h
  rcases ho.2 with ⟨_, q⟩ | ⟨g, cap, cur, _, _, _, q1, q2, _⟩
  · omega
  · simp only [maxLen] at q2; omega

set_option maxHeartbeats 16000000 in
set_option maxRecDepth 100000 in
theorem law5_calls (w : World) (G : Glob w) (m : Int) (va : Value) (x y : Bs) (an : List Int) (ha : IntsAt w va an) (han : an.length ≤ 2000000) :
    Calls Tryz.prog 5 #[.int .i64 m, S x, S y, va] w fun e w' => e = .returned (.bool true) ∧ Below w.heap.size w w' := by
  have HA := Lib.hid ha
  obtain ⟨a2, c2, rfl, hc2⟩ := id ha
  clear ha hc2
  by_cases hxl : x.length ≤ 3000
  · have dx : decide (3000 < (x.length : Int)) = false := by simp; omega
    by_cases hyl : y.length ≤ 3000
    · have dy : decide (3000 < (y.length : Int)) = false := by simp; omega
      by_cases hx0 : x = []
      · have HX : Hid (x = [] ∨ x.getLast? = some 10) := .inl hx0
        subst hx0
        go_enter Tryz.func5, Tryz.ntmps5
        go_wp2_with fail
        refine (small_calls w G).mono ?_
        rintro e w1 ⟨rfl, hb1⟩
        have HB1 := Lib.hid hb1
        have G1 := G.below' hb1
        have HA1 := Lib.hid (HA.out.below hb1)
        clear hb1
        go_wp2_with fail
        refine (new_calls w1 G1 m).mono ?_
        rintro e w2 ⟨rfl, hs1, hb2⟩
        have G2 := G1.below' hb2
        have HS1 := Lib.hid hs1
        have HB2 := Lib.hid hb2
        clear hs1 hb2
        go_wp2_with fail
        refine (new_calls w2 G2 m).mono ?_
        rintro e w3 ⟨rfl, ht1, hb3⟩
        have h3 := Lib.hid (Two.made HS1.out HB2.out ht1 hb3)
        clear ht1 hb3 HS1 HB2 G2
        go_wp2_with fail
        refine (h3.out.feed G1 _ (new_ok m) [] (by first | omega | (simp; done))).mono ?_
        rintro e w4 ⟨rfl, h4⟩
        have ok4 := feed_ok (new_ok m) []
        have hk4 := feed_kept (newS m) []
        have HQ : Hid (∃ s : Sess, quietF 3100 1 (feedS (newS m) []).2 = s ∧ s.waits = false ∧ (s.over = true ∨ s.kept = []) ∧ s.most = mostL m ∧ s.rest = []) := quiet_rest m [] (.inl rfl) (by first | omega | (simp; done))
        have HPL : Hid ((feedS (quietF 3100 1 (feedS (newS m) []).2) heloX).1 = okX → seen (drainedL (feedS (newS m) heloX).2 y an) = seen (drainedL (feedS (quietF 3100 1 (feedS (newS m) []).2) heloX).2 y an)) := hello_plain m [] y an (.inl rfl) (by first | omega | (simp; done))
        have hTx : 0 + 2 * List.length ([] : Bs) ≤ 6000 := by first | omega | (simp; done)
        have hkx : (feedS (newS m) []).2.kept.length ≤ 3000 := by
          have e0 : (newS m).kept.length = 0 := rfl
          first | omega | (simp at hk4; omega)
        obtain ⟨fo, hfo⟩ : ∃ fo, feedS (newS m) [] = fo := ⟨_, rfl⟩
        obtain ⟨T0, hT0⟩ : ∃ T0, 0 + 2 * List.length ([] : Bs) = T0 := ⟨_, rfl⟩
        have HPL2 := HPL.out
        have HQ2 := HQ.out
        rw [hfo] at ok4 h4 HPL2 HQ2 hkx ⊢
        rw [hT0] at ok4 hTx
        obtain ⟨R1, hR1⟩ : ∃ R1, quietF 3100 1 fo.2 = R1 := ⟨_, rfl⟩
        rw [hR1] at HPL2 HQ2
        have HP := Lib.hid HPL2
        have HQQ := Lib.hid HQ2
        have H4 := Lib.hid h4
        have OK4 := Lib.hid ok4
        have HR1 := Lib.hid hR1
        clear h4 ok4 hk4 HPL2 HQ2 HPL HQ hfo hT0 h3
        go_wp2_with fail
        go_loopg [13, 14] 3100 (fun g2 v13 v14 wx => QIn w1 (w1.heap.size + 1) (w2.heap.size + 1) (newS m) R1 T0 g2 v13 v14 wx)
        case atStart => exact ⟨0, fo.2, by omega, rfl, rfl, HR1.out, OK4.out, by omega, fun _ => by omega, H4.out⟩
        case round =>
          obtain ⟨k, s2, hkg, rfl, rfl, hqf, hok2, hk1, hk2, htw⟩ := hrel
          have HQF := Lib.hid hqf
          have OK2 := Lib.hid hok2
          have HTW := Lib.hid htw
          clear hqf hok2 htw H4
          have dk : decide ((k : Int) < 3100) = true := by simp; omega
          cases hw2 : s2.waits
          · have HE : Hid (s2 = R1) := by
              have e9 := HQF.out
              obtain ⟨g9, rfl⟩ : ∃ g9, gk = g9 + 1 := ⟨gk - 1, by omega⟩
              unfold quietF at e9
              rw [hw2] at e9
              exact e9
            have hE := HE.out
            subst hE
            go_wp2_with fail
            refine (HTW.out.feed G1 _ OK2.out heloX (by show T0 + 2 * 8 ≤ _; omega)).mono ?_
            rintro e w6 ⟨rfl, h6⟩
            have okS := feed_ok OK2.out heloX
            obtain ⟨fs, hfs⟩ : ∃ fs, feedS s2 heloX = fs := ⟨_, rfl⟩
            have HP2 := HP.out
            rw [hfs] at h6 okS HP2 ⊢
            have H6 := Lib.hid h6
            have OKS := Lib.hid okS
            have HP3 := Lib.hid HP2
            clear h6 okS HP2 hfs
            go_wp2_with fail
            refine (H6.out.swap.feed G1 _ (new_ok m) heloX (by decide)).mono ?_
            have hn := (hello_new m).1
            have okT := feed_ok (new_ok m) heloX
            have HP4 := HP3.out
            rintro e w7 ⟨rfl, h7⟩
            obtain ⟨ft, hft⟩ : ∃ ft, feedS (newS m) heloX = ft := ⟨_, rfl⟩
            rw [hft] at h7 okT hn HP4 ⊢
            rw [show ft.1 = [50, 53, 48, 32, 79, 75, 13, 10] from hn]
            have H7 := Lib.hid h7
            have OKT := Lib.hid okT
            have HP5 := Lib.hid HP4
            have HBE : Hid (Below w.heap.size w w7) := below_then'' HB1.out h7.bel HB1.out.size
            clear h7 okT HP4 hft hn
            by_cases hq : fs.1 = okX
            · have HSE := Lib.hid (HP5.out hq)
              rw [show fs.1 = [50, 53, 48, 32, 79, 75, 13, 10] from hq]
              clear hq
              go_wp2_with fail
              refine (H7.out.swap.drain G1 _ OKS.out y (by show T0 + 2 * 8 + 2 * y.length ≤ _; omega) _ an HA1.out han).mono ?_
              rintro e w8 ⟨vm1, rfl, hM⟩
              obtain ⟨RS, hRS⟩ : ∃ RS, drainedL fs.2 y an = RS := ⟨_, rfl⟩
              have HSE2 := HSE.out
              rw [hRS] at hM HSE2 ⊢
              have HM := Lib.hid hM
              have HSE3 := Lib.hid HSE2
              clear hM HSE2 hRS
              go_wp2_with fail
              refine (HM.out.drain G1 _ OKT.out y (by show 0 + 2 * 8 + 2 * y.length ≤ _; omega) _ an HA1.out han).mono ?_
              rintro e w9 ⟨vm2, rfl, hs9, ht9, hm1, hm2, hb9⟩
              obtain ⟨RT, hRT⟩ : ∃ RT, drainedL ft.2 y an = RT := ⟨_, rfl⟩
              have HSE4 := HSE3.out
              rw [hRT] at ht9 hm2 HSE4 ⊢
              unfold seen at HSE4
              simp only [Prod.mk.injEq] at HSE4
              obtain ⟨p1, p2, p3⟩ := HSE4
              rw [p1]
              rw [p2] at hm2
              obtain ⟨ma1, mc1, hv1⟩ : ∃ a c, vm1 = .slice a RS.2.1.length c := by obtain ⟨M, hM⟩ := hm1; exact hM.slice
              obtain ⟨ma2, mc2, hv2⟩ : ∃ a c, vm2 = .slice a RS.2.1.length c := by obtain ⟨M, hM⟩ := hm2; exact hM.slice
              subst hv1
              subst hv2
              obtain ⟨ps9, Fs9, hs9'⟩ := hs9
              obtain ⟨pt9, Ft9, ht9'⟩ := ht9
              have HS9 := Lib.hid hs9'
              have HT9 := Lib.hid ht9'
              have HM1 := Lib.hid hm1
              have HM2 := Lib.hid hm2
              have HP3' := Lib.hid p3
              have HB5 : Hid (Below w.heap.size w w9) := below_then'' HB1.out hb9 HB1.out.size
              have HML : Hid (RS.2.1.length ≤ 9223372036854775807) := by obtain ⟨M, hM⟩ := hm1; exact hM.len
              obtain ⟨ms, hms⟩ : ∃ ms, RS.2.1 = ms := ⟨_, rfl⟩
              rw [hms] at HM1 HM2 HML ⊢
              have h85 : 8 ≤ w9.heap.size := by have := HB5.out.size; have := G.sz; omega
              clear hs9' ht9' hm1 hm2 p1 p2 p3 hb9 hms hRT
              go_wp2_with fail
              refine (over_calls w9 _ RS.2.2 ps9 Fs9 HS9.out).mono ?_
              rintro e wX ⟨rfl, hwX⟩
              rw [hwX]
              clear hwX
              go_wp2_with fail
              refine (over_calls w9 _ RT.2.2 pt9 Ft9 HT9.out).mono ?_
              rw [HP3'.out]
              rintro e wX ⟨rfl, hwX⟩
              rw [hwX]
              clear hwX
              go_wp2_with fail
              go_loopg [23] ms.length (fun g v23 wx => ∃ j : Nat, j + g = ms.length ∧ v23 = .int .i64 j ∧ Below w9.heap.size w9 wx)
              case atStart => exact ⟨0, by omega, rfl, Below.refl _ _⟩
              case round =>
                obtain ⟨j, hjg, rfl, hbx⟩ := hrel
                have HBX := Lib.hid hbx
                clear hbx
                cases gk with
                | zero =>
                  have d : decide ((j : Int) < (ms.length : Int)) = false := by simp; omega
                  go_wp2
                  go_ret
                  exact ⟨rfl, below_then'' HB5.out HBX.out HB5.out.size⟩
                | succ g =>
                  have hj : j < ms.length := by omega
                  have d : decide ((j : Int) < (ms.length : Int)) = true := by simp; omega
                  have hj0 : (0 : Int) ≤ (j : Int) := by omega
                  have hjl : (j : Int) < (ms.length : Int) := by omega
                  have hml := HML.out
                  have hjw : IntKind.i64.wrap ((j : Int) + 1) = ((j + 1 : Nat) : Int) := by rw [IntWalk.i64_in _ ⟨by omega, by omega⟩]; omega
                  obtain ⟨mm, hmm⟩ : ∃ mm, ms[j]? = some mm := ⟨ms[j], List.getElem?_eq_getElem hj⟩
                  obtain ⟨g1, r1, hv1, R1', rw1⟩ : ∃ g v, ma1 = some ⟨g, 0, none⟩ ∧ w9.rangeAt g (j * 3) [S mm.1, v, S mm.2.2] ∧ RowAt w9 9 v (strsV mm.2.1) := by
                    obtain ⟨M, hm⟩ := HM1.out
                    obtain ⟨g, c9, e, hg⟩ := hm.get (by intro e; rw [e] at hj; simp at hj)
                    cases e
                    obtain ⟨v, q1, q2, q3, q4⟩ := hg j mm hmm
                    refine ⟨g, v, rfl, fun t u ht => ?_, q4⟩
                    rcases t with _ | _ | _ | t
                    · simp at ht; subst ht; rw [Nat.mul_comm]; exact q1
                    · simp at ht; subst ht; rw [Nat.mul_comm]; exact q2
                    · simp at ht; subst ht; rw [Nat.mul_comm]; exact q3
                    · simp at ht
                  obtain ⟨g2, r2, hv2, R2', rw2⟩ : ∃ g v, ma2 = some ⟨g, 0, none⟩ ∧ w9.rangeAt g (j * 3) [S mm.1, v, S mm.2.2] ∧ RowAt w9 9 v (strsV mm.2.1) := by
                    obtain ⟨M, hm⟩ := HM2.out
                    obtain ⟨g, c9, e, hg⟩ := hm.get (by intro e; rw [e] at hj; simp at hj)
                    cases e
                    obtain ⟨v, q1, q2, q3, q4⟩ := hg j mm hmm
                    refine ⟨g, v, rfl, fun t u ht => ?_, q4⟩
                    rcases t with _ | _ | _ | t
                    · simp at ht; subst ht; rw [Nat.mul_comm]; exact q1
                    · simp at ht; subst ht; rw [Nat.mul_comm]; exact q2
                    · simp at ht; subst ht; rw [Nat.mul_comm]; exact q3
                    · simp at ht
                  subst hv1
                  subst hv2
                  have kp : ∀ (q : Addr) (u : Value), w9.cell? q = some u → wr.drew.cell? q = some u := fun q u hq => (World.cell?_of_block (HBX.out.block q.block (World.block_lt_of_cell? _ q hq))).trans hq
                  have A0 := kp _ _ (R1' 0 _ rfl)
                  have A1 := kp _ _ (R1' 1 _ rfl)
                  have A2 := kp _ _ (R1' 2 _ rfl)
                  have B0 := kp _ _ (R2' 0 _ rfl)
                  have B1 := kp _ _ (R2' 1 _ rfl)
                  have B2 := kp _ _ (R2' 2 _ rfl)
                  rw [Nat.add_zero] at A0 B0
                  have RW1 : Hid (RowAt wr.drew 9 r1 (strsV mm.2.1)) := rw1.heap fun k q => HBX.out.block k (rw1.lt k q).2
                  have RW2 : Hid (RowAt wr.drew 9 r2 (strsV mm.2.1)) := rw2.heap fun k q => HBX.out.block k (rw2.lt k q).2
                  have h8r : 8 ≤ wr.drew.heap.size := by have := HBX.out.size; show 8 ≤ wr.heap.size; omega
                  clear R1' R2' rw1 rw2 hmm kp
                  go_wp2_with fail
                  go_region_held3 (fun w' => w'.cell? ⟨g1, j * 3, none⟩ = some (S mm.1) ∧ w'.cell? ⟨g1, j * 3 + 1, none⟩ = some r1 ∧ w'.cell? ⟨g1, j * 3 + 2, none⟩ = some (S mm.2.2) ∧ w'.cell? ⟨g2, j * 3, none⟩ = some (S mm.1) ∧ w'.cell? ⟨g2, j * 3 + 1, none⟩ = some r2 ∧ w'.cell? ⟨g2, j * 3 + 2, none⟩ = some (S mm.2.2))
                    (first | assumption | exact ⟨A0, A1, A2, B0, B1, B2⟩ | exact ⟨cellB hbS A0, cellB hbS A1, cellB hbS A2, cellB hbS B0, cellB hbS B1, cellB hbS B2⟩)
                    (first | (go_at_call 18; refine (same_calls _ h8r mm mm r1 r2 RW1.out RW2.out).mono ?_; rintro e wS ⟨rfl, hbS⟩))
                  go_wp2
                  go_roundg g
                  case measure => omega
                  case rel =>
                    exact ⟨j + 1, by omega, by simp, below_then'' (HBX.out.drew) hbS HBX.out.size⟩
            · have dq : (fs.1 == [50, 53, 48, 32, 79, 75, 13, 10]) = false := by
                rw [beq_eq_false_iff_ne]; exact hq
              clear hq
              go_wp2
              go_ret
              exact ⟨rfl, HBE.out⟩
          · obtain ⟨g2, rfl⟩ : ∃ g2, gk = g2 + 1 := ⟨gk - 1, by omega⟩
            have hk3 := hk2 hw2
            go_wp2_with fail
            refine (HTW.out.answer G1 1).mono ?_
            rintro e w6 ⟨rfl, h6⟩
            have H6 := Lib.hid h6
            have ok6 := answer_ok OK2.out 1
            clear h6
            go_wp2_with fail
            refine (H6.out.feed G1 _ ok6 [] (by simp only [List.length_nil]; omega)).mono ?_
            rintro e w7 ⟨rfl, h7⟩
            have ok7 := feed_ok ok6 []
            have hal : (answerS s2 1).2.kept = s2.kept := by unfold answerS; rw [if_pos hw2]; rfl
            have hless := feed_less (answerS s2 1).2 (answer_done s2 1)
            rw [hal] at hless
            have HQ3 : Hid (quietF g2 1 (feedS (answerS s2 1).2 []).2 = R1) := by
              have e9 := HQF.out
              unfold quietF at e9
              rw [hw2] at e9
              exact e9
            obtain ⟨fe, hfe⟩ : ∃ fe, feedS (answerS s2 1).2 [] = fe := ⟨_, rfl⟩
            have HQ4 := HQ3.out
            rw [hfe] at h7 ok7 hless HQ4 ⊢
            have H7 := Lib.hid h7
            have OK7 := Lib.hid ok7
            have HQ5 := Lib.hid HQ4
            have HLS := Lib.hid hless
            clear h7 ok7 ok6 hless HQ4 hfe hal HQ3
            have hkw : IntKind.i64.wrap ((k : Int) + 1) = ((k + 1 : Nat) : Int) := by rw [IntWalk.i64_in _ ⟨by omega, by omega⟩]; omega
            go_wp2
            go_roundg g2
            case measure => omega
            case rel => exact ⟨k + 1, fe.2, by omega, rfl, by simp, HQ5.out, OK7.out, by omega, fun q => by have := HLS.out q; omega, H7.out⟩

      · obtain ⟨n, hn⟩ : ∃ n, x.length = n + 1 := ⟨x.length - 1, by have := List.length_pos_iff.2 hx0; omega⟩
        have he : List.isEmpty x = false := by cases x with | nil => exact absurd rfl hx0 | cons _ _ => rfl
        have hnn : n + 1 ≤ 3000 := by omega
        have dx' : decide (3000 < (n : Int) + 1) = false := by simp; omega
        have hlt : (n : Int) < (n : Int) + 1 := by omega
        have hsz : n < (⟨x.toArray⟩ : ByteArray).size := by show n < x.length; omega
        obtain ⟨ch, hch⟩ : ∃ ch : UInt8, (⟨x.toArray⟩ : ByteArray)[n]'hsz = ch := ⟨_, rfl⟩
        have hlast : Hid (x.getLast? = some ch) := by
          unfold Hid
          rw [List.getLast?_eq_getElem?, hn]
          show x[n]? = _
          rw [List.getElem?_eq_getElem (by omega), ← hch]
          rfl
        have HN : Hid (x.length = n + 1) := hn
        clear hx0 dx
        by_cases h10 : ch = 10
        · have dc : ((((⟨x.toArray⟩ : ByteArray)[n]'hsz).toNat : Int) != 10) = false := by rw [hch, h10]; rfl
          have HX : Hid (x = [] ∨ x.getLast? = some 10) := .inr (by rw [hlast.out, h10])
          clear hch
          go_enter Tryz.func5, Tryz.ntmps5
          go_wp2_with fail
          refine (small_calls w G).mono ?_
          rintro e w1 ⟨rfl, hb1⟩
          have HB1 := Lib.hid hb1
          have G1 := G.below' hb1
          have HA1 := Lib.hid (HA.out.below hb1)
          clear hb1
          go_wp2_with fail
          refine (new_calls w1 G1 m).mono ?_
          rintro e w2 ⟨rfl, hs1, hb2⟩
          have G2 := G1.below' hb2
          have HS1 := Lib.hid hs1
          have HB2 := Lib.hid hb2
          clear hs1 hb2
          go_wp2_with fail
          refine (new_calls w2 G2 m).mono ?_
          rintro e w3 ⟨rfl, ht1, hb3⟩
          have h3 := Lib.hid (Two.made HS1.out HB2.out ht1 hb3)
          clear ht1 hb3 HS1 HB2 G2
          go_wp2_with fail
          refine (h3.out.feed G1 _ (new_ok m) x (by first | omega | (simp; done))).mono ?_
          rintro e w4 ⟨rfl, h4⟩
          have ok4 := feed_ok (new_ok m) x
          have hk4 := feed_kept (newS m) x
          have HQ : Hid (∃ s : Sess, quietF 3100 1 (feedS (newS m) x).2 = s ∧ s.waits = false ∧ (s.over = true ∨ s.kept = []) ∧ s.most = mostL m ∧ s.rest = []) := quiet_rest m x HX.out (by first | omega | (simp; done))
          have HPL : Hid ((feedS (quietF 3100 1 (feedS (newS m) x).2) heloX).1 = okX → seen (drainedL (feedS (newS m) heloX).2 y an) = seen (drainedL (feedS (quietF 3100 1 (feedS (newS m) x).2) heloX).2 y an)) := hello_plain m x y an HX.out (by first | omega | (simp; done))
          have hTx : 0 + 2 * List.length x ≤ 6000 := by first | omega | (simp; done)
          have hkx : (feedS (newS m) x).2.kept.length ≤ 3000 := by
            have e0 : (newS m).kept.length = 0 := rfl
            first | omega | (simp at hk4; omega)
          obtain ⟨fo, hfo⟩ : ∃ fo, feedS (newS m) x = fo := ⟨_, rfl⟩
          obtain ⟨T0, hT0⟩ : ∃ T0, 0 + 2 * List.length x = T0 := ⟨_, rfl⟩
          have HPL2 := HPL.out
          have HQ2 := HQ.out
          rw [hfo] at ok4 h4 HPL2 HQ2 hkx ⊢
          rw [hT0] at ok4 hTx
          obtain ⟨R1, hR1⟩ : ∃ R1, quietF 3100 1 fo.2 = R1 := ⟨_, rfl⟩
          rw [hR1] at HPL2 HQ2
          have HP := Lib.hid HPL2
          have HQQ := Lib.hid HQ2
          have H4 := Lib.hid h4
          have OK4 := Lib.hid ok4
          have HR1 := Lib.hid hR1
          clear h4 ok4 hk4 HPL2 HQ2 HPL HQ hfo hT0 h3
          go_wp2_with fail
          go_loopg [13, 14] 3100 (fun g2 v13 v14 wx => QIn w1 (w1.heap.size + 1) (w2.heap.size + 1) (newS m) R1 T0 g2 v13 v14 wx)
          case atStart => exact ⟨0, fo.2, by omega, rfl, rfl, HR1.out, OK4.out, by omega, fun _ => by omega, H4.out⟩
          case round =>
            obtain ⟨k, s2, hkg, rfl, rfl, hqf, hok2, hk1, hk2, htw⟩ := hrel
            have HQF := Lib.hid hqf
            have OK2 := Lib.hid hok2
            have HTW := Lib.hid htw
            clear hqf hok2 htw H4
            have dk : decide ((k : Int) < 3100) = true := by simp; omega
            cases hw2 : s2.waits
            · have HE : Hid (s2 = R1) := by
                have e9 := HQF.out
                obtain ⟨g9, rfl⟩ : ∃ g9, gk = g9 + 1 := ⟨gk - 1, by omega⟩
                unfold quietF at e9
                rw [hw2] at e9
                exact e9
              have hE := HE.out
              subst hE
              go_wp2_with fail
              refine (HTW.out.feed G1 _ OK2.out heloX (by show T0 + 2 * 8 ≤ _; omega)).mono ?_
              rintro e w6 ⟨rfl, h6⟩
              have okS := feed_ok OK2.out heloX
              obtain ⟨fs, hfs⟩ : ∃ fs, feedS s2 heloX = fs := ⟨_, rfl⟩
              have HP2 := HP.out
              rw [hfs] at h6 okS HP2 ⊢
              have H6 := Lib.hid h6
              have OKS := Lib.hid okS
              have HP3 := Lib.hid HP2
              clear h6 okS HP2 hfs
              go_wp2_with fail
              refine (H6.out.swap.feed G1 _ (new_ok m) heloX (by decide)).mono ?_
              have hn := (hello_new m).1
              have okT := feed_ok (new_ok m) heloX
              have HP4 := HP3.out
              rintro e w7 ⟨rfl, h7⟩
              obtain ⟨ft, hft⟩ : ∃ ft, feedS (newS m) heloX = ft := ⟨_, rfl⟩
              rw [hft] at h7 okT hn HP4 ⊢
              rw [show ft.1 = [50, 53, 48, 32, 79, 75, 13, 10] from hn]
              have H7 := Lib.hid h7
              have OKT := Lib.hid okT
              have HP5 := Lib.hid HP4
              have HBE : Hid (Below w.heap.size w w7) := below_then'' HB1.out h7.bel HB1.out.size
              clear h7 okT HP4 hft hn
              by_cases hq : fs.1 = okX
              · have HSE := Lib.hid (HP5.out hq)
                rw [show fs.1 = [50, 53, 48, 32, 79, 75, 13, 10] from hq]
                clear hq
                go_wp2_with fail
                refine (H7.out.swap.drain G1 _ OKS.out y (by show T0 + 2 * 8 + 2 * y.length ≤ _; omega) _ an HA1.out han).mono ?_
                rintro e w8 ⟨vm1, rfl, hM⟩
                obtain ⟨RS, hRS⟩ : ∃ RS, drainedL fs.2 y an = RS := ⟨_, rfl⟩
                have HSE2 := HSE.out
                rw [hRS] at hM HSE2 ⊢
                have HM := Lib.hid hM
                have HSE3 := Lib.hid HSE2
                clear hM HSE2 hRS
                go_wp2_with fail
                refine (HM.out.drain G1 _ OKT.out y (by show 0 + 2 * 8 + 2 * y.length ≤ _; omega) _ an HA1.out han).mono ?_
                rintro e w9 ⟨vm2, rfl, hs9, ht9, hm1, hm2, hb9⟩
                obtain ⟨RT, hRT⟩ : ∃ RT, drainedL ft.2 y an = RT := ⟨_, rfl⟩
                have HSE4 := HSE3.out
                rw [hRT] at ht9 hm2 HSE4 ⊢
                unfold seen at HSE4
                simp only [Prod.mk.injEq] at HSE4
                obtain ⟨p1, p2, p3⟩ := HSE4
                rw [p1]
                rw [p2] at hm2
                obtain ⟨ma1, mc1, hv1⟩ : ∃ a c, vm1 = .slice a RS.2.1.length c := by obtain ⟨M, hM⟩ := hm1; exact hM.slice
                obtain ⟨ma2, mc2, hv2⟩ : ∃ a c, vm2 = .slice a RS.2.1.length c := by obtain ⟨M, hM⟩ := hm2; exact hM.slice
                subst hv1
                subst hv2
                obtain ⟨ps9, Fs9, hs9'⟩ := hs9
                obtain ⟨pt9, Ft9, ht9'⟩ := ht9
                have HS9 := Lib.hid hs9'
                have HT9 := Lib.hid ht9'
                have HM1 := Lib.hid hm1
                have HM2 := Lib.hid hm2
                have HP3' := Lib.hid p3
                have HB5 : Hid (Below w.heap.size w w9) := below_then'' HB1.out hb9 HB1.out.size
                have HML : Hid (RS.2.1.length ≤ 9223372036854775807) := by obtain ⟨M, hM⟩ := hm1; exact hM.len
                obtain ⟨ms, hms⟩ : ∃ ms, RS.2.1 = ms := ⟨_, rfl⟩
                rw [hms] at HM1 HM2 HML ⊢
                have h85 : 8 ≤ w9.heap.size := by have := HB5.out.size; have := G.sz; omega
                clear hs9' ht9' hm1 hm2 p1 p2 p3 hb9 hms hRT
                go_wp2_with fail
                refine (over_calls w9 _ RS.2.2 ps9 Fs9 HS9.out).mono ?_
                rintro e wX ⟨rfl, hwX⟩
                rw [hwX]
                clear hwX
                go_wp2_with fail
                refine (over_calls w9 _ RT.2.2 pt9 Ft9 HT9.out).mono ?_
                rw [HP3'.out]
                rintro e wX ⟨rfl, hwX⟩
                rw [hwX]
                clear hwX
                go_wp2_with fail
                go_loopg [23] ms.length (fun g v23 wx => ∃ j : Nat, j + g = ms.length ∧ v23 = .int .i64 j ∧ Below w9.heap.size w9 wx)
                case atStart => exact ⟨0, by omega, rfl, Below.refl _ _⟩
                case round =>
                  obtain ⟨j, hjg, rfl, hbx⟩ := hrel
                  have HBX := Lib.hid hbx
                  clear hbx
                  cases gk with
                  | zero =>
                    have d : decide ((j : Int) < (ms.length : Int)) = false := by simp; omega
                    go_wp2
                    go_ret
                    exact ⟨rfl, below_then'' HB5.out HBX.out HB5.out.size⟩
                  | succ g =>
                    have hj : j < ms.length := by omega
                    have d : decide ((j : Int) < (ms.length : Int)) = true := by simp; omega
                    have hj0 : (0 : Int) ≤ (j : Int) := by omega
                    have hjl : (j : Int) < (ms.length : Int) := by omega
                    have hml := HML.out
                    have hjw : IntKind.i64.wrap ((j : Int) + 1) = ((j + 1 : Nat) : Int) := by rw [IntWalk.i64_in _ ⟨by omega, by omega⟩]; omega
                    obtain ⟨mm, hmm⟩ : ∃ mm, ms[j]? = some mm := ⟨ms[j], List.getElem?_eq_getElem hj⟩
                    obtain ⟨g1, r1, hv1, R1', rw1⟩ : ∃ g v, ma1 = some ⟨g, 0, none⟩ ∧ w9.rangeAt g (j * 3) [S mm.1, v, S mm.2.2] ∧ RowAt w9 9 v (strsV mm.2.1) := by
                      obtain ⟨M, hm⟩ := HM1.out
                      obtain ⟨g, c9, e, hg⟩ := hm.get (by intro e; rw [e] at hj; simp at hj)
                      cases e
                      obtain ⟨v, q1, q2, q3, q4⟩ := hg j mm hmm
                      refine ⟨g, v, rfl, fun t u ht => ?_, q4⟩
                      rcases t with _ | _ | _ | t
                      · simp at ht; subst ht; rw [Nat.mul_comm]; exact q1
                      · simp at ht; subst ht; rw [Nat.mul_comm]; exact q2
                      · simp at ht; subst ht; rw [Nat.mul_comm]; exact q3
                      · simp at ht
                    obtain ⟨g2, r2, hv2, R2', rw2⟩ : ∃ g v, ma2 = some ⟨g, 0, none⟩ ∧ w9.rangeAt g (j * 3) [S mm.1, v, S mm.2.2] ∧ RowAt w9 9 v (strsV mm.2.1) := by
                      obtain ⟨M, hm⟩ := HM2.out
                      obtain ⟨g, c9, e, hg⟩ := hm.get (by intro e; rw [e] at hj; simp at hj)
                      cases e
                      obtain ⟨v, q1, q2, q3, q4⟩ := hg j mm hmm
                      refine ⟨g, v, rfl, fun t u ht => ?_, q4⟩
                      rcases t with _ | _ | _ | t
                      · simp at ht; subst ht; rw [Nat.mul_comm]; exact q1
                      · simp at ht; subst ht; rw [Nat.mul_comm]; exact q2
                      · simp at ht; subst ht; rw [Nat.mul_comm]; exact q3
                      · simp at ht
                    subst hv1
                    subst hv2
                    have kp : ∀ (q : Addr) (u : Value), w9.cell? q = some u → wr.drew.cell? q = some u := fun q u hq => (World.cell?_of_block (HBX.out.block q.block (World.block_lt_of_cell? _ q hq))).trans hq
                    have A0 := kp _ _ (R1' 0 _ rfl)
                    have A1 := kp _ _ (R1' 1 _ rfl)
                    have A2 := kp _ _ (R1' 2 _ rfl)
                    have B0 := kp _ _ (R2' 0 _ rfl)
                    have B1 := kp _ _ (R2' 1 _ rfl)
                    have B2 := kp _ _ (R2' 2 _ rfl)
                    rw [Nat.add_zero] at A0 B0
                    have RW1 : Hid (RowAt wr.drew 9 r1 (strsV mm.2.1)) := rw1.heap fun k q => HBX.out.block k (rw1.lt k q).2
                    have RW2 : Hid (RowAt wr.drew 9 r2 (strsV mm.2.1)) := rw2.heap fun k q => HBX.out.block k (rw2.lt k q).2
                    have h8r : 8 ≤ wr.drew.heap.size := by have := HBX.out.size; show 8 ≤ wr.heap.size; omega
                    clear R1' R2' rw1 rw2 hmm kp
                    go_wp2_with fail
                    go_region_held3 (fun w' => w'.cell? ⟨g1, j * 3, none⟩ = some (S mm.1) ∧ w'.cell? ⟨g1, j * 3 + 1, none⟩ = some r1 ∧ w'.cell? ⟨g1, j * 3 + 2, none⟩ = some (S mm.2.2) ∧ w'.cell? ⟨g2, j * 3, none⟩ = some (S mm.1) ∧ w'.cell? ⟨g2, j * 3 + 1, none⟩ = some r2 ∧ w'.cell? ⟨g2, j * 3 + 2, none⟩ = some (S mm.2.2))
                      (first | assumption | exact ⟨A0, A1, A2, B0, B1, B2⟩ | exact ⟨cellB hbS A0, cellB hbS A1, cellB hbS A2, cellB hbS B0, cellB hbS B1, cellB hbS B2⟩)
                      (first | (go_at_call 18; refine (same_calls _ h8r mm mm r1 r2 RW1.out RW2.out).mono ?_; rintro e wS ⟨rfl, hbS⟩))
                    go_wp2
                    go_roundg g
                    case measure => omega
                    case rel =>
                      exact ⟨j + 1, by omega, by simp, below_then'' (HBX.out.drew) hbS HBX.out.size⟩
              · have dq : (fs.1 == [50, 53, 48, 32, 79, 75, 13, 10]) = false := by
                  rw [beq_eq_false_iff_ne]; exact hq
                clear hq
                go_wp2
                go_ret
                exact ⟨rfl, HBE.out⟩
            · obtain ⟨g2, rfl⟩ : ∃ g2, gk = g2 + 1 := ⟨gk - 1, by omega⟩
              have hk3 := hk2 hw2
              go_wp2_with fail
              refine (HTW.out.answer G1 1).mono ?_
              rintro e w6 ⟨rfl, h6⟩
              have H6 := Lib.hid h6
              have ok6 := answer_ok OK2.out 1
              clear h6
              go_wp2_with fail
              refine (H6.out.feed G1 _ ok6 [] (by simp only [List.length_nil]; omega)).mono ?_
              rintro e w7 ⟨rfl, h7⟩
              have ok7 := feed_ok ok6 []
              have hal : (answerS s2 1).2.kept = s2.kept := by unfold answerS; rw [if_pos hw2]; rfl
              have hless := feed_less (answerS s2 1).2 (answer_done s2 1)
              rw [hal] at hless
              have HQ3 : Hid (quietF g2 1 (feedS (answerS s2 1).2 []).2 = R1) := by
                have e9 := HQF.out
                unfold quietF at e9
                rw [hw2] at e9
                exact e9
              obtain ⟨fe, hfe⟩ : ∃ fe, feedS (answerS s2 1).2 [] = fe := ⟨_, rfl⟩
              have HQ4 := HQ3.out
              rw [hfe] at h7 ok7 hless HQ4 ⊢
              have H7 := Lib.hid h7
              have OK7 := Lib.hid ok7
              have HQ5 := Lib.hid HQ4
              have HLS := Lib.hid hless
              clear h7 ok7 ok6 hless HQ4 hfe hal HQ3
              have hkw : IntKind.i64.wrap ((k : Int) + 1) = ((k + 1 : Nat) : Int) := by rw [IntWalk.i64_in _ ⟨by omega, by omega⟩]; omega
              go_wp2
              go_roundg g2
              case measure => omega
              case rel => exact ⟨k + 1, fe.2, by omega, rfl, by simp, HQ5.out, OK7.out, by omega, fun q => by have := HLS.out q; omega, H7.out⟩

        · have dc : ((((⟨x.toArray⟩ : ByteArray)[n]'hsz).toNat : Int) != 10) = true := by
            rw [hch, bne_iff_ne]
            intro e
            apply h10
            have : ch.toNat = (10 : UInt8).toNat := by have : (10 : UInt8).toNat = 10 := rfl; omega
            exact UInt8.toNat_inj.1 this
          clear hch
          go_enter Tryz.func5, Tryz.ntmps5
          go_wp2_with fail
          refine (small_calls w G).mono ?_
          rintro e w1 ⟨rfl, hb1⟩
          have HB := Lib.hid hb1
          clear hb1
          go_wp2
          go_ret
          exact ⟨rfl, HB.out⟩
    · have dy : decide (3000 < (y.length : Int)) = true := by simp; omega
      clear hyl
      go_enter Tryz.func5, Tryz.ntmps5
      go_wp2_with fail
      refine (small_calls w G).mono ?_
      rintro e w1 ⟨rfl, hb1⟩
      have HB := Lib.hid hb1
      clear hb1
      go_wp2
      go_ret
      exact ⟨rfl, HB.out⟩
  · have dx : decide (3000 < (x.length : Int)) = true := by simp; omega
    clear hxl
    go_enter Tryz.func5, Tryz.ntmps5
    go_wp2_with fail
    refine (small_calls w G).mono ?_
    rintro e w1 ⟨rfl, hb1⟩
    have HB := Lib.hid hb1
    clear hb1
    go_wp2
    go_ret
    exact ⟨rfl, HB.out⟩
end Go.Proofs.YtapanjfheddfnaaGreatDoor
