/- The contract of drained. -/
import Derived.Test.YtapanjfheddfnaaGreatDoorWholeW
import Derived.Test.YtapanjfheddfnaaGreatDoorHelloP
namespace Go.Proofs.YtapanjfheddfnaaGreatDoor
open Go.RowKit Go.Shelf
attribute [local go_sem high] ext_to ext_from
attribute [local go_sem] ext_list app_list size_list

def DIn (F : Nat → Prop) (w : World) (b : Nat) (an : List Int) (R : Bs × List Mail × Sess) (T : Nat) (g : Nat) (v8 v9 v10 v11 : Value) (wx : World) : Prop :=
  ∃ (k : Nat) (s : Sess) (out : Bs) (ms : List Mail), k + g = 3100 ∧ v8 = S out ∧ v9 = .bool s.waits ∧ v11 = .int .i64 k ∧ drainF g s out ms an = R ∧ Ok s T ∧ ms.length ≤ k ∧ out.length ≤ 5000000 * (1 + k) ∧ InR F w b s v10 ms wx
theorem InR.keeps {F0 : Nat → Prop} {w0 W : World} {b : Nat} {s : Sess} {vm : Value} {ms : List Mail} (h : InR F0 w0 b s vm ms W) : Kept F0 w0 W := by
  obtain ⟨p, F, M, _, _, _, _, _, hk⟩ := h; exact hk
set_option maxHeartbeats 8000000 in
set_option maxRecDepth 100000 in
theorem drained_calls (w : World) (G : Glob w) (b : Nat) (s : Sess) (p : SP) (F : Nat → Prop) (h : SessAt w b s p F) (T : Nat) (hok : Ok s T) (chunk : Bs) (hT : T + 2 * chunk.length ≤ 20000) (va : Value) (an : List Int) (ha : ∀ W', Kept F w W' → IntsAt W' va an) (han : an.length ≤ 2000000) :
    Calls Tryz.prog 24 #[.pointer (some ⟨b, 0, none⟩), S chunk, va] w fun e w' => ∃ vm, e = .returned (.tuple #[S (drainedL s chunk an).1, vm]) ∧ InR F w b (drainedL s chunk an).2.2 vm (drainedL s chunk an).2.1 w' := by
  obtain ⟨R1, hR⟩ : ∃ R1, drainedL s chunk an = R1 := ⟨_, rfl⟩
  rw [hR]
  have HR : Hid (drainF 3100 (feedS s chunk).2 (feedS s chunk).1 [] an = R1) := hR
  have hin0 : Hid (InR F w b s (.slice none 0 0) [] w) := ⟨p, F, _, h, MailsAt.nil w, fun _ _ q => q, fun k q => .inl q, fun _ q => q.elim, Kept.refl _ _⟩
  have h08 : ∀ k, F k → 8 ≤ k := fun k q => (h.blk k q).1
  obtain ⟨a2, c2, rfl, hc2⟩ := ha w (Kept.refl _ _)
  have HA := Lib.hid ha
  clear hR ha hc2 h
  go_enter Tryz.func24, Tryz.ntmps24
  go_wp2_with fail
  refine (hin0.out.feed G _ hok chunk (by omega)).mono ?_
  rintro e w2 ⟨rfl, hin2⟩
  have hok2 := feed_ok hok chunk
  have hfl := feed_len hok chunk
  obtain ⟨fo, hfo⟩ : ∃ fo, feedS s chunk = fo := ⟨_, rfl⟩
  have HR1 := HR.out
  rw [hfo] at hin2 hok2 hfl HR1 ⊢
  have HIN2 := Lib.hid hin2
  have HOK2 := Lib.hid hok2
  have HR2 := Lib.hid HR1
  clear hin2 hfo hok2 HR1 HR
  go_wp2_with fail
  go_loopg [8, 9, 10, 11] 3100 (fun g2 v8 v9 v10 v11 wx => DIn F w b an R1 (T + 2 * chunk.length) g2 v8 v9 v10 v11 wx)
  case atStart => exact ⟨0, fo.2, fo.1, [], by omega, rfl, rfl, rfl, HR2.out, HOK2.out, by simp, by omega, HIN2.out⟩
  case round =>
    obtain ⟨k, s2, out2, ms2, hkg, rfl, rfl, rfl, hdr, hok3, hms3, hol3, hin3⟩ := hrel
    have HDR := Lib.hid hdr
    have HIN3 := Lib.hid hin3
    have HOK3 := Lib.hid hok3
    obtain ⟨mb, mcb, hmb⟩ := hin3.slice
    clear hdr hin3 hok3 HIN2
    cases gk with
    | zero =>
      have dk : decide ((k : Int) < 3100) = false := by simp; omega
      have HE : Hid ((out2, ms2, s2) = R1) := HDR.out
      go_wp2
      go_ret2
      rw [← HE.out]
      exact ⟨_, rfl, HIN3.out⟩
    | succ g2 =>
      have dk : decide ((k : Int) < 3100) = true := by simp; omega
      cases hw2 : s2.waits
      · have HE : Hid ((out2, ms2, s2) = R1) := by
          have := HDR.out
          unfold drainF at this
          rw [hw2] at this
          exact this
        go_wp2
        go_ret2
        rw [← HE.out]
        exact ⟨_, rfl, HIN3.out⟩
      · obtain ⟨ae, hae⟩ : ∃ ae, an.getD ms2.length 0 = ae := ⟨_, rfl⟩
        have HAE := Lib.hid hae
        have HDN : Hid (drainF g2 (feedS (answerS s2 ae).2 []).2 (out2 ++ (answerS s2 ae).1 ++ (feedS (answerS s2 ae).2 []).1) (ms2 ++ [mailE s2]) an = R1) := by
          have := HDR.out
          unfold drainF at this
          rw [hw2, hae] at this
          exact this
        have G3 := HIN3.out.glob G h08
        have hak : ∃ w', w' = wr := ⟨_, rfl⟩
        by_cases hma : ms2.length < an.length
        · have dm : decide ((ms2.length : Int) < (an.length : Int)) = true := by simp; omega
          obtain ⟨kb, offb, rfl, hce⟩ : ∃ k off, a2 = some ⟨k, off, none⟩ ∧ wr.cell? ⟨k, off + ms2.length, none⟩ = some (.int .i64 ae) := by
            obtain ⟨a', c', e, hr⟩ := HA.out _ HIN3.out.keeps
            cases e
            obtain ⟨k, off, e2, hr⟩ := hr (by intro e; rw [e] at hma; simp at hma)
            refine ⟨k, off, e2, hr ms2.length ae ?_⟩
            rw [← hae, List.getD_eq_getElem?_getD, List.getElem?_eq_getElem hma]; rfl
          have hm0 : (0 : Int) ≤ (ms2.length : Int) := by omega
          have hml : (ms2.length : Int) < (an.length : Int) := by omega
          subst hmb
          clear hae
          go_wp2_with fail
          refine (HIN3.out.mail G3 HOK3.out hw2).mono ?_
          rintro e w4 ⟨v2, rfl, hv⟩
          have HV := Lib.hid hv
          clear hv
          obtain ⟨v4, w5, happ, hin5⟩ := HV.out.append (m := mailE s2) (by have := HV.out.size; have := G.sz; omega) (by omega) 40
          have HIN5 := Lib.hid hin5
          clear hin5
          go_wp2_with (first | (at_builtin; refine wpList_append_known rfl _ _ 40 rfl _ _ rfl rfl _ _ happ ?_))
          have G5 := HIN5.out.glob G h08
          refine (HIN5.out.answer G5 ae).mono ?_
          rintro e w6 ⟨rfl, hin6⟩
          have hok6 := answer_ok HOK3.out ae
          have hal := answer_len s2 ae
          obtain ⟨fa, hfa⟩ : ∃ fa, answerS s2 ae = fa := ⟨_, rfl⟩
          rw [hfa] at hin6 hok6 hal ⊢
          have hb1 : ¬ 9223372036854775807 < out2.length + fa.1.length := by omega
          have HIN6 := Lib.hid hin6
          have HFA := Lib.hid hfa
          clear hin6 hfa happ
          go_wp2_with fail
          have G6 := HIN6.out.glob G h08
          refine (HIN6.out.feed G6 _ hok6 [] (by simp only [List.length_nil]; omega)).mono ?_
          rintro e w7 ⟨rfl, hin7⟩
          have hok7 := feed_ok hok6 []
          have hfl7 := feed_len hok6 []
          obtain ⟨fe, hfe⟩ : ∃ fe, feedS fa.2 [] = fe := ⟨_, rfl⟩
          rw [hfe] at hin7 hok7 hfl7 ⊢
          simp only [List.length_nil, Nat.mul_zero, Nat.add_zero] at hfl7 hok7
          have hb2 : ¬ 9223372036854775807 < out2.length + fa.1.length + fe.1.length := by omega
          have HIN7 := Lib.hid hin7
          have HFE := Lib.hid hfe
          have HOK7 := Lib.hid hok7
          clear hin7 hfe hok7 hok6
          have hkw : IntKind.i64.wrap ((k : Int) + 1) = ((k + 1 : Nat) : Int) := by rw [IntWalk.i64_in _ ⟨by omega, by omega⟩]; omega
          go_wp2
          go_roundg g2
          case measure => omega
          case rel =>
            refine ⟨k + 1, fe.2, out2 ++ fa.1 ++ fe.1, ms2 ++ [mailE s2], by omega, ?_, rfl, ?_, ?_, HOK7.out, by simp; omega, by simp only [List.length_append]; omega, HIN7.out⟩
            · simp
            · simp
            · rw [← HFE.out, ← HFA.out]; exact HDN.out
        · have dm : decide ((ms2.length : Int) < (an.length : Int)) = false := by simp; omega
          have hz : ae = 0 := by
            rw [← hae, List.getD_eq_getElem?_getD, List.getElem?_eq_none (by omega)]; rfl
          subst hmb
          clear hae
          go_wp2_with fail
          refine (HIN3.out.mail G3 HOK3.out hw2).mono ?_
          rintro e w4 ⟨v2, rfl, hv⟩
          have HV := Lib.hid hv
          clear hv
          obtain ⟨v4, w5, happ, hin5⟩ := HV.out.append (m := mailE s2) (by have := HV.out.size; have := G.sz; omega) (by omega) 40
          have HIN5 := Lib.hid hin5
          clear hin5
          go_wp2_with (first | (at_builtin; refine wpList_append_known rfl _ _ 40 rfl _ _ rfl rfl _ _ happ ?_))
          have G5 := HIN5.out.glob G h08
          refine (HIN5.out.answer G5 0).mono ?_
          rintro e w6 ⟨rfl, hin6⟩
          have hok6 := answer_ok HOK3.out 0
          have hal := answer_len s2 0
          obtain ⟨fa, hfa⟩ : ∃ fa, answerS s2 0 = fa := ⟨_, rfl⟩
          rw [hfa] at hin6 hok6 hal ⊢
          have hb1 : ¬ 9223372036854775807 < out2.length + fa.1.length := by omega
          have HIN6 := Lib.hid hin6
          have HFA := Lib.hid hfa
          clear hin6 hfa happ
          go_wp2_with fail
          have G6 := HIN6.out.glob G h08
          refine (HIN6.out.feed G6 _ hok6 [] (by simp only [List.length_nil]; omega)).mono ?_
          rintro e w7 ⟨rfl, hin7⟩
          have hok7 := feed_ok hok6 []
          have hfl7 := feed_len hok6 []
          obtain ⟨fe, hfe⟩ : ∃ fe, feedS fa.2 [] = fe := ⟨_, rfl⟩
          rw [hfe] at hin7 hok7 hfl7 ⊢
          simp only [List.length_nil, Nat.mul_zero, Nat.add_zero] at hfl7 hok7
          have hb2 : ¬ 9223372036854775807 < out2.length + fa.1.length + fe.1.length := by omega
          have HIN7 := Lib.hid hin7
          have HFE := Lib.hid hfe
          have HOK7 := Lib.hid hok7
          clear hin7 hfe hok7 hok6
          have hkw : IntKind.i64.wrap ((k : Int) + 1) = ((k + 1 : Nat) : Int) := by rw [IntWalk.i64_in _ ⟨by omega, by omega⟩]; omega
          go_wp2
          go_roundg g2
          case measure => omega
          case rel =>
            refine ⟨k + 1, fe.2, out2 ++ fa.1 ++ fe.1, ms2 ++ [mailE s2], by omega, ?_, rfl, ?_, ?_, HOK7.out, by simp; omega, by simp only [List.length_append]; omega, HIN7.out⟩
            · simp
            · simp
            · rw [← HFE.out, ← HFA.out]; have e9 := HDN.out; rw [hz] at e9; exact e9
end Go.Proofs.YtapanjfheddfnaaGreatDoor
