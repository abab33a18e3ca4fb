/- The contract of whole. -/
import Derived.Test.YtapanjfheddfnaaGreatDoorInR
import Derived.Test.YtapanjfheddfnaaGreatDoorPieces
import Derived.IntWalk
namespace Go.Proofs.YtapanjfheddfnaaGreatDoor
open Go.RowKit Go.Shelf
attribute [local go_sem high] ext_to ext_from
attribute [local go_sem] ext_list app_list size_list

/-- append, its run known. -/
theorem wpList_append_known {P : Program} {ops : Array Oper} {rest : List Oper} {o : Oper} {a : Act} {w : World} {Q : Exit → Act → World → Prop} (hgd : o.guard = none) (s x : Operand) (t : TypeId)
    (ho : o.op = .call { callee := .builtin .append, args := #[s, x], argTypes := #[t, t] }) (vs vx : Value) (hs : a.eval s = vs) (hx : a.eval x = vx)
    (v' : Value) (w' : World) (hr : (Builtin.append_ #[t, t] o.type #[vs, vx]).run P w = .ok v' w') (h : wpList P ops Q rest (a.put o.dst v') w') : wpList P ops Q (o :: rest) a w := by
  refine wpList_plain hgd fun K hK => ?_
  unfold Oper.wp execOp
  simp only [ho, resolve, invoke, builtin, Sem.run_bind, Sem.run_pure, Result.andThen_ok, List.map_toArray, List.map_cons, List.map_nil, hs, hx, hr]
  exact hK _ _ h
def WOut (w : World) (b : Nat) (l : List Bs) (an : List Int) (R : Bs × List Mail × Sess) (g : Nat) (v10 v11 v12 : Value) (wx : World) : Prop :=
  ∃ (i : Nat) (s : Sess) (out : Bs) (ms : List Mail), i + g = l.length ∧ v10 = S out ∧ v12 = .int .i64 i ∧ overF (l.drop i) s out ms an = R ∧ Ok s (2 * sumL (l.take i)) ∧ ms.length ≤ 7000 * i ∧ out.length ≤ 5000000 * (7001 * i) ∧ InR NoBlk w b s v11 ms wx
def WIn (w : World) (b : Nat) (an : List Int) (R : Bs × List Mail × Sess) (T n : Nat) (g : Nat) (v10 v11 v14 v15 : Value) (wx : World) : Prop :=
  ∃ (k : Nat) (s : Sess) (out : Bs) (ms : List Mail), k + g = 7000 ∧ v10 = S out ∧ v14 = .bool s.waits ∧ v15 = .int .i64 k ∧ drainF g s out ms an = R ∧ Ok s T ∧ ms.length ≤ 7000 * n + k ∧ out.length ≤ 5000000 * (7001 * n + 1 + k) ∧ InR NoBlk w b s v11 ms wx
set_option maxHeartbeats 8000000 in
set_option maxRecDepth 100000 in
theorem whole_calls (w : World) (G : Glob w) (m : Int) (v va : Value) (l : List Bs) (an : List Int) (hl : ReadsAt w v l) (ha : IntsAt w va an) (hn : l.length ≤ 100) (hs : sumL l ≤ 10000) (han : an.length ≤ 2000000) :
    Calls Tryz.prog 23 #[.int .i64 m, v, va] w fun e w' => ∃ vm, e = .returned (.tuple #[S (wholeL m l an).1, vm, .bool (wholeL m l an).2.2.over]) ∧ InR NoBlk w (w.heap.size + 1) (wholeL m l an).2.2 vm (wholeL m l an).2.1 w' := by
  obtain ⟨R, hR⟩ : ∃ R, wholeL m l an = R := ⟨_, rfl⟩
  rw [hR]
  have HR : Hid (overF l (newS m) [] [] an = R) := hR
  clear hR
  obtain ⟨a, c, rfl, hc⟩ := id hl
  obtain ⟨a2, c2, rfl, hc2⟩ := id ha
  have HL := Lib.hid hl
  have HA := Lib.hid ha
  have h0 : ∀ k, NoBlk k → False := fun _ h => h
  have h08 : ∀ k, NoBlk k → 8 ≤ k := fun _ h => h.elim
  clear hl ha hc hc2
  go_enter Tryz.func23, Tryz.ntmps23
  go_wp2_with fail
  refine (new_calls w G m).mono ?_
  rintro e w1 ⟨rfl, hse, hb1⟩
  have hrel0 : Hid (InR NoBlk w (w.heap.size + 1) (newS m) (.slice none 0 0) [] w1) :=
    ⟨_, _, _, hse, MailsAt.nil w1, fun _ _ q => q, fun k q => by rcases q with q | q <;> exact .inr (by omega), fun _ q => q.elim, Kept.of_below hb1⟩
  clear hse hb1
  go_wp2_with fail
  go_loopg [10, 11, 12] l.length (fun g v10 v11 v12 wx => WOut w (w.heap.size + 1) l an R g v10 v11 v12 wx)
  case atStart => exact ⟨0, newS m, [], [], by omega, rfl, rfl, by rw [List.drop_zero]; exact HR.out, new_ok m, by simp, by simp, hrel0.out⟩
  case round =>
    obtain ⟨i, s, out, ms, hig, rfl, rfl, hov, hok, hms, hol, hin⟩ := hrel
    have HOV := Lib.hid hov
    have HIN := Lib.hid hin
    obtain ⟨ma, mc, hma⟩ := hin.slice
    clear hov
    cases gk with
    | zero =>
      have d : decide ((i : Int) < (l.length : Int)) = false := by simp; omega
      have HE : Hid ((out, ms, s) = R) := by
        have := HOV.out
        rw [List.drop_of_length_le (by omega)] at this
        exact this
      clear hin hma
      go_wp2_with fail
      refine (HIN.out.over).mono ?_
      rintro e w2 ⟨rfl, hw2⟩
      rw [hw2]
      go_wp2
      go_ret3
      rw [← HE.out]
      exact ⟨_, rfl, HIN.out⟩
    | succ g =>
      have hi : i < l.length := by omega
      have d : decide ((i : Int) < (l.length : Int)) = true := by simp; omega
      have hi0 : (0 : Int) ≤ (i : Int) := by omega
      have hil : (i : Int) < (l.length : Int) := by omega
      obtain ⟨x, hx⟩ : ∃ x, l[i]? = some x := ⟨l[i], List.getElem?_eq_getElem hi⟩
      have HX := Lib.hid hx
      obtain ⟨ka, off, rfl, hcx⟩ : ∃ k off, a = some ⟨k, off, none⟩ ∧ wr.cell? ⟨k, off + i, none⟩ = some (S x) := by
        obtain ⟨a', c', e, hr⟩ := HIN.out.reads h0 HL.out
        cases e
        obtain ⟨k, off, e2, hr⟩ := hr (by intro e; rw [e] at hi; simp at hi)
        exact ⟨k, off, e2, hr i x hx⟩
      have hsum := sumL_take_succ l i x hx
      have hle := sumL_take_le l (i + 1)
      have GX := HIN.out.glob G h08
      have hle10 : sumL (l.take (i + 1)) ≤ 10000 := by omega
      have HSUM := Lib.hid hsum
      have hT : 2 * sumL (l.take i) + 2 * x.length ≤ 20000 := by omega
      clear hx hin hma hsum hle
      go_wp2_with fail
      refine (HIN.out.feed GX _ hok x (by omega)).mono ?_
      rintro e w2 ⟨rfl, hin2⟩
      have hok2 := feed_ok hok x
      obtain ⟨fo, hfo⟩ : ∃ fo, feedS s x = fo := ⟨_, rfl⟩
      rw [hfo] at hin2 hok2 ⊢
      have HIN2 := Lib.hid hin2
      have HFO := Lib.hid hfo
      have HOK2 := Lib.hid hok2
      obtain ⟨R1, hR1⟩ : ∃ R1, drainF 7000 fo.2 (out ++ fo.1) ms an = R1 := ⟨_, rfl⟩
      have HR1 := Lib.hid hR1
      have hfl := feed_len hok x
      rw [hfo] at hfl
      have hbd : ¬ 9223372036854775807 < out.length + fo.1.length := by omega
      have hol2 : (out ++ fo.1).length ≤ 5000000 * (7001 * i + 1) := by rw [List.length_append]; omega
      have HNX : Hid (overF (l.drop (i + 1)) R1.2.2 R1.1 R1.2.1 an = R) := by
        have := HOV.out
        unfold Hid
        rw [← hR1, ← hfo]
        rw [← this]
        have e : l.drop i = x :: l.drop (i + 1) := by
          rw [List.drop_eq_getElem_cons hi]
          congr 1
          have := HX.out
          rw [List.getElem?_eq_getElem hi] at this
          exact Option.some.inj this
        rw [e]
        rfl
      clear hin2 hfo hok2 hR1
      go_wp2_with fail
      go_loopg [10, 11, 14, 15] 7000 (fun g2 v10 v11 v14 v15 wx => WIn w (w.heap.size + 1) an R1 (2 * sumL (l.take (i + 1))) i g2 v10 v11 v14 v15 wx)
      case atStart => exact ⟨0, fo.2, out ++ fo.1, ms, by omega, rfl, rfl, rfl, HR1.out, by rw [HSUM.out, Nat.mul_add]; exact HOK2.out, by omega, hol2, HIN2.out⟩
      case round =>
        obtain ⟨k, s2, out2, ms2, hkg, rfl, rfl, rfl, hdr, hok3, hms3, hol3, hin3⟩ := hrel
        have HDR := Lib.hid hdr
        have HIN3 := Lib.hid hin3
        have HOK3 := Lib.hid hok3
        obtain ⟨mb, mcb, hmb⟩ := hin3.slice
        clear hdr hin3 hok3 HIN HIN2
        cases gk with
        | zero =>
          have dk : decide ((k : Int) < 7000) = false := by simp; omega
          have HE : Hid ((out2, ms2, s2) = R1) := HDR.out
          go_wp2
          go_roundg g
          case measure => omega
          case rel =>
            refine ⟨i + 1, R1.2.2, R1.1, R1.2.1, by omega, ?_, by first | rfl | simp, HNX.out, ?_, ?_, ?_, ?_⟩
            all_goals rw [← HE.out]
            · exact HOK3.out
            · show ms2.length ≤ _; omega
            · show out2.length ≤ _; omega
            · exact HIN3.out
        | succ g2 =>
          have dk : decide ((k : Int) < 7000) = true := by simp; omega
          cases hw2 : s2.waits
          · have HE : Hid ((out2, ms2, s2) = R1) := by
              have := HDR.out
              unfold drainF at this
              rw [hw2] at this
              exact this
            go_wp2
            go_roundg g
            case measure => omega
            case rel =>
              refine ⟨i + 1, R1.2.2, R1.1, R1.2.1, by omega, ?_, by first | rfl | simp, HNX.out, ?_, ?_, ?_, ?_⟩
              all_goals rw [← HE.out]
              · exact HOK3.out
              · show ms2.length ≤ _; omega
              · show out2.length ≤ _; omega
              · exact HIN3.out
          · obtain ⟨ae, hae⟩ : ∃ ae, an.getD ms2.length 0 = ae := ⟨_, rfl⟩
            have HAE := Lib.hid hae
            have HDN : Hid (drainF g2 (feedS (answerS s2 ae).2 []).2 (out2 ++ (answerS s2 ae).1 ++ (feedS (answerS s2 ae).2 []).1) (ms2 ++ [mailE s2]) an = R1) := by
              have := HDR.out
              unfold drainF at this
              rw [hw2, hae] at this
              exact this
            have G3 := HIN3.out.glob G h08
            have hak : ∃ w', w' = wr := ⟨_, rfl⟩
            by_cases hma : ms2.length < an.length
            · have dm : decide ((ms2.length : Int) < (an.length : Int)) = true := by simp; omega
              obtain ⟨kb, offb, rfl, hce⟩ : ∃ k off, a2 = some ⟨k, off, none⟩ ∧ wr.cell? ⟨k, off + ms2.length, none⟩ = some (.int .i64 ae) := by
                obtain ⟨a', c', e, hr⟩ := HIN3.out.ints h0 HA.out
                cases e
                obtain ⟨k, off, e2, hr⟩ := hr (by intro e; rw [e] at hma; simp at hma)
                refine ⟨k, off, e2, hr ms2.length ae ?_⟩
                rw [← hae, List.getD_eq_getElem?_getD, List.getElem?_eq_getElem hma]; rfl
              have hm0 : (0 : Int) ≤ (ms2.length : Int) := by omega
              have hml : (ms2.length : Int) < (an.length : Int) := by omega
              subst hmb
              clear hae
              go_wp2_with fail
              refine (HIN3.out.mail G3 HOK3.out hw2).mono ?_
              rintro e w4 ⟨v2, rfl, hv⟩
              have HV := Lib.hid hv
              clear hv
              obtain ⟨v4, w5, happ, hin5⟩ := HV.out.append (m := mailE s2) (by have := HV.out.size; have := G.sz; omega) (by omega) 40
              have HIN5 := Lib.hid hin5
              clear hin5
              go_wp2_with (first | (at_builtin; refine wpList_append_known rfl _ _ 40 rfl _ _ rfl rfl _ _ happ ?_))
              have G5 := HIN5.out.glob G h08
              refine (HIN5.out.answer G5 ae).mono ?_
              rintro e w6 ⟨rfl, hin6⟩
              have hok6 := answer_ok HOK3.out ae
              have hal := answer_len s2 ae
              obtain ⟨fa, hfa⟩ : ∃ fa, answerS s2 ae = fa := ⟨_, rfl⟩
              rw [hfa] at hin6 hok6 hal ⊢
              have hb1 : ¬ 9223372036854775807 < out2.length + fa.1.length := by omega
              have HIN6 := Lib.hid hin6
              have HFA := Lib.hid hfa
              clear hin6 hfa happ
              go_wp2_with fail
              have G6 := HIN6.out.glob G h08
              refine (HIN6.out.feed G6 _ hok6 [] (by simp only [List.length_nil]; omega)).mono ?_
              rintro e w7 ⟨rfl, hin7⟩
              have hok7 := feed_ok hok6 []
              have hfl7 := feed_len hok6 []
              obtain ⟨fe, hfe⟩ : ∃ fe, feedS fa.2 [] = fe := ⟨_, rfl⟩
              rw [hfe] at hin7 hok7 hfl7 ⊢
              simp only [List.length_nil, Nat.mul_zero, Nat.add_zero] at hfl7 hok7
              have hb2 : ¬ 9223372036854775807 < out2.length + fa.1.length + fe.1.length := by omega
              have HIN7 := Lib.hid hin7
              have HFE := Lib.hid hfe
              have HOK7 := Lib.hid hok7
              clear hin7 hfe hok7 hok6
              have hkw : IntKind.i64.wrap ((k : Int) + 1) = ((k + 1 : Nat) : Int) := by rw [IntWalk.i64_in _ ⟨by omega, by omega⟩]; omega
              go_wp2
              go_roundg g2
              case measure => omega
              case rel =>
                refine ⟨k + 1, fe.2, out2 ++ fa.1 ++ fe.1, ms2 ++ [mailE s2], by omega, ?_, rfl, ?_, ?_, HOK7.out, by simp; omega, by simp only [List.length_append]; omega, HIN7.out⟩
                · simp
                · simp
                · rw [← HFE.out, ← HFA.out]; exact HDN.out
            · have dm : decide ((ms2.length : Int) < (an.length : Int)) = false := by simp; omega
              have hz : ae = 0 := by
                rw [← hae, List.getD_eq_getElem?_getD, List.getElem?_eq_none (by omega)]; rfl
              subst hmb
              clear hae
              go_wp2_with fail
              refine (HIN3.out.mail G3 HOK3.out hw2).mono ?_
              rintro e w4 ⟨v2, rfl, hv⟩
              have HV := Lib.hid hv
              clear hv
              obtain ⟨v4, w5, happ, hin5⟩ := HV.out.append (m := mailE s2) (by have := HV.out.size; have := G.sz; omega) (by omega) 40
              have HIN5 := Lib.hid hin5
              clear hin5
              go_wp2_with (first | (at_builtin; refine wpList_append_known rfl _ _ 40 rfl _ _ rfl rfl _ _ happ ?_))
              have G5 := HIN5.out.glob G h08
              refine (HIN5.out.answer G5 0).mono ?_
              rintro e w6 ⟨rfl, hin6⟩
              have hok6 := answer_ok HOK3.out 0
              have hal := answer_len s2 0
              obtain ⟨fa, hfa⟩ : ∃ fa, answerS s2 0 = fa := ⟨_, rfl⟩
              rw [hfa] at hin6 hok6 hal ⊢
              have hb1 : ¬ 9223372036854775807 < out2.length + fa.1.length := by omega
              have HIN6 := Lib.hid hin6
              have HFA := Lib.hid hfa
              clear hin6 hfa happ
              go_wp2_with fail
              have G6 := HIN6.out.glob G h08
              refine (HIN6.out.feed G6 _ hok6 [] (by simp only [List.length_nil]; omega)).mono ?_
              rintro e w7 ⟨rfl, hin7⟩
              have hok7 := feed_ok hok6 []
              have hfl7 := feed_len hok6 []
              obtain ⟨fe, hfe⟩ : ∃ fe, feedS fa.2 [] = fe := ⟨_, rfl⟩
              rw [hfe] at hin7 hok7 hfl7 ⊢
              simp only [List.length_nil, Nat.mul_zero, Nat.add_zero] at hfl7 hok7
              have hb2 : ¬ 9223372036854775807 < out2.length + fa.1.length + fe.1.length := by omega
              have HIN7 := Lib.hid hin7
              have HFE := Lib.hid hfe
              have HOK7 := Lib.hid hok7
              clear hin7 hfe hok7 hok6
              have hkw : IntKind.i64.wrap ((k : Int) + 1) = ((k + 1 : Nat) : Int) := by rw [IntWalk.i64_in _ ⟨by omega, by omega⟩]; omega
              go_wp2
              go_roundg g2
              case measure => omega
              case rel =>
                refine ⟨k + 1, fe.2, out2 ++ fa.1 ++ fe.1, ms2 ++ [mailE s2], by omega, ?_, rfl, ?_, ?_, HOK7.out, by simp; omega, by simp only [List.length_append]; omega, HIN7.out⟩
                · simp
                · simp
                · rw [← HFE.out, ← HFA.out]; have e9 := HDN.out; rw [hz] at e9; exact e9
end Go.Proofs.YtapanjfheddfnaaGreatDoor
