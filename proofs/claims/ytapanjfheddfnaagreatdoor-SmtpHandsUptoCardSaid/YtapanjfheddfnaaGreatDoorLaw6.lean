/- SmtpKeeps: the walk. -/
import Derived.Test.YtapanjfheddfnaaGreatDoorKeepsP
import Derived.Test.YtapanjfheddfnaaGreatDoorSplitW
import Derived.Test.YtapanjfheddfnaaGreatDoorHas
import Derived.Test.YtapanjfheddfnaaGreatDoorLaw5
namespace Go.Proofs.YtapanjfheddfnaaGreatDoor
open Go.RowKit Go.Shelf
attribute [local go_sem high] ext_to ext_from
attribute [local go_sem] ext_list app_list size_list

theorem fold_len (an : List Int) : ∀ (l : List Bs) (x : Bs × List Mail × Sess), x.2.2.waits = false → x.2.2.most ≤ 9223372036854775807 → (l.foldl (one an) x).1.length ≤ x.1.length + 240 * l.length
  | [], x, _, _ => by simp
  | y :: l, x, hw, hm => by
    rw [List.foldl_cons]
    have h1 : (one an x y).1.length ≤ x.1.length + 240 ∧ (one an x y).2.2.waits = false ∧ (one an x y).2.2.most = x.2.2.most := by
      unfold one
      split
      · exact ⟨by omega, hw, rfl⟩
      · have t := turn_turned hw hm y
        split
        · rename_i q
          refine ⟨?_, answer_done _ _, ?_⟩
          · have := answer_len (turnS x.2.2 y).2 (an.getD x.2.1.length 0)
            have := t.out
            simp only [List.length_append]
            omega
          · rw [← t.most]; unfold answerS; rw [if_pos q]; rfl
        · rename_i q
          refine ⟨?_, by simpa using q, t.most⟩
          have := t.out
          simp only [List.length_append]
          omega
    have := fold_len an l (one an x y) h1.2.1 (by rw [h1.2.2]; exact hm)
    simp only [List.length_cons]
    omega
theorem whole_len (m : Int) (l : List Bs) (an : List Int) (h : l.flatten.length < 7000) : (wholeL m l an).1.length ≤ 1680000 := by
  have hc : ∀ c ∈ l, c.length < 7000 := by
    intro c hm
    obtain ⟨a, b, rfl⟩ := List.append_of_mem hm
    simp only [List.flatten_append, List.flatten_cons, List.length_append] at h
    omega
  have hs : seen (wholeL m l an) = _ := over_fold an l (newS m) [] [] rfl rfl (by simp [newS]) hc
  unfold seen at hs
  simp only [Prod.mk.injEq] at hs
  rw [hs.1]
  have h1 := fold_len an (pushL (newS m).rest l.flatten).2 ([], [], newS m) rfl (by show mostL m ≤ _; unfold mostL; omega)
  have h2 := pushL_len (newS m).rest l.flatten
  simp only [List.length_nil] at h1
  omega
theorem RowAt.reads {W : World} {v : Value} {l : List Bs} (h : RowAt W 9 v (strsV l)) : ReadsAt W v l := by
  obtain ⟨a, c, hv⟩ := h.slice
  rw [strsV_len] at hv
  subst hv
  refine ⟨a, c, rfl, fun hn => ?_⟩
  obtain ⟨g, off, cap, e, hc⟩ := h.cells (by simpa [strsV] using hn)
  rw [strsV_len] at e
  cases e
  exact ⟨g, off, rfl, fun j x hx => hc j _ (by simp [strsV, hx])⟩
/-- What the walk asks of a line. -/
theorem line_facts (r : Bs) (h : lineB r = true) : ∃ q : Nat, r.length = q + 7 ∧ r.drop (q + 5) = [13, 10] ∧ (r[3]? = some 32 ∨ r[3]? = some 45) ∧ (parseL (r.take 3) 221 554).2 = true := by
  unfold lineB at h
  simp only [Bool.and_eq_true, decide_eq_true_eq, beq_iff_eq, Bool.or_eq_true] at h
  obtain ⟨⟨⟨⟨h1, h2⟩, h3⟩, h4⟩, h5⟩ := h
  refine ⟨r.length - 7, by omega, ?_, h3, h4⟩
  rw [show r.length - 7 + 5 = r.length - 2 by omega]
  exact h2
theorem rows_at {rs : List Bs} {over : Bool} (h : ∀ r ∈ rs, plainB r = true) {i : Nat} {r : Bs} (hr : (rs ++ (if over then [bye] else []))[i]? = some r) :
    lineB r = true ∧ (((parseL (r.take 3) 221 554).1 ≠ 221 ∧ (over = true → i + 1 < (rs ++ (if over then [bye] else [])).length)) ∨ ((parseL (r.take 3) 221 554).1 = 221 ∧ over = true ∧ i + 1 = (rs ++ (if over then [bye] else [])).length)) := by
  by_cases hi : i < rs.length
  · rw [List.getElem?_append_left hi] at hr
    have := h r (List.mem_of_getElem? hr)
    unfold plainB at this
    simp only [Bool.and_eq_true, bne_iff_ne] at this
    refine ⟨this.1, .inl ⟨this.2, fun ho => ?_⟩⟩
    rw [ho]
    simp
    omega
  · rw [List.getElem?_append_right (by omega)] at hr
    cases over with
    | false => simp at hr
    | true =>
      have hi2 : i - rs.length = 0 := by
        have := (List.getElem?_eq_some_iff.1 hr).1
        simp at this
        omega
      rw [hi2] at hr
      simp at hr
      subst hr
      have hb := bye_line
      simp only [Bool.and_eq_true, beq_iff_eq] at hb
      refine ⟨hb.1, .inr ⟨hb.2, rfl, ?_⟩⟩
      simp
      omega
set_option maxHeartbeats 16000000 in
set_option maxRecDepth 100000 in
theorem law6_calls (w : World) (G : Glob w) (m : Int) (v va : Value) (l : List Bs) (an : List Int) (hl : ReadsAt w v l) (ha : IntsAt w va an) (hn : l.length ≤ 2000000) (hs : sumL l ≤ 2000000) (han : an.length ≤ 2000000) :
    Calls Tryz.prog 6 #[.int .i64 m, v, va] w fun e w' => e = .returned (.bool true) ∧ Below w.heap.size w w' := by
  have HL := Lib.hid hl
  have HA := Lib.hid ha
  obtain ⟨a, c, rfl, hc⟩ := id hl
  obtain ⟨a2, c2, rfl, hc2⟩ := id ha
  clear hl ha hc hc2
  go_enter Tryz.func6, Tryz.ntmps6
  go_wp2_with fail
  refine (small_calls w G).mono ?_
  rintro e w1 ⟨rfl, hb1⟩
  have HB1 := Lib.hid hb1
  have G1 := G.below' hb1
  have HL1 := Lib.hid (HL.out.below hb1)
  have HA1 := Lib.hid (HA.out.below hb1)
  clear hb1
  go_wp2_with fail
  refine (few_calls w1 _ l HL1.out hn hs).mono ?_
  rintro e w2 ⟨rfl, hw2⟩
  rw [hw2]
  clear hw2
  cases hf : fewL l
  · go_wp2
    go_ret
    exact ⟨rfl, HB1.out⟩
  · have hf2 : l.length ≤ 60 ∧ sumL l ≤ 6000 := by
      unfold fewL at hf
      simp only [Bool.and_eq_true, decide_eq_true_eq] at hf
      have e : l.take 100 = l := List.take_of_length_le (by omega)
      rw [e] at hf
      exact hf
    obtain ⟨h60, h6000⟩ := hf2
    clear hf
    have hfl : l.flatten.length < 7000 := by rw [sumL_flatten]; omega
    obtain ⟨k1, k2⟩ := keeps_plain m l an hfl
    have k3 := whole_len m l an hfl
    obtain ⟨R, hR⟩ : ∃ R, wholeL m l an = R := ⟨_, rfl⟩
    rw [hR] at k1 k2 k3
    have HR := Lib.hid hR
    obtain ⟨rs, hrs, hrows⟩ := says_lines k1
    have HK2 := Lib.hid k2
    have HRS := Lib.hid hrs
    have HROWS := Lib.hid hrows
    clear k1 k2 hR hrs hrows hfl
    go_wp2_with fail
    refine (whole_calls w1 G1 m _ _ l an HL1.out HA1.out (by omega) (by omega) han).mono ?_
    rw [HR.out]
    rintro e w3 ⟨vm, rfl, hin⟩
    have G3 := hin.glob G1 (fun _ h => h.elim)
    have HIN := Lib.hid hin
    obtain ⟨ma, mc, hvm⟩ := hin.slice
    clear hin
    go_wp2_with fail
    refine (split_calls R.1 (by omega) w3 G3).mono ?_
    rw [HROWS.out]
    rintro e w4 ⟨ov, rfl, ho, hb4⟩
    obtain ⟨rows, hrw⟩ : ∃ rows, rs ++ (if R.2.2.over then [bye] else []) = rows := ⟨_, rfl⟩
    have HAT : Hid (∀ (i : Nat) (r : Bs), rows[i]? = some r → r.length ≤ 1680000 ∧ lineB r = true ∧ (((parseL (r.take 3) 221 554).1 ≠ 221 ∧ (R.2.2.over = true → i + 1 < rows.length)) ∨ ((parseL (r.take 3) 221 554).1 = 221 ∧ R.2.2.over = true ∧ i + 1 = rows.length))) := by
      intro i r hr
      rw [← hrw] at hr ⊢
      refine ⟨?_, rows_at HRS.out hr⟩
      have hmem := List.mem_of_getElem? hr
      rw [← HROWS.out] at hmem
      exact Nat.le_trans (mem_linesL_le hmem) k3
    have HOV : Hid (R.2.2.over = true → 0 < rows.length) := by
      intro q
      rw [← hrw, q]
      simp
    rw [hrw] at ho
    have HRD : Hid (ReadsAt w4 ov rows) := (RowAt.of_owns ho (by have := G3.sz; omega)).reads
    have HRL : Hid (rows.length ≤ 9223372036854775807) := by
      have := (RowAt.of_owns ho (by have := G3.sz; omega)).len
      rw [strsV_len] at this
      simp only [maxLen] at this
      unfold Hid
      omega
    obtain ⟨oa, oc, hov, _⟩ := HRD.out
    subst hov
    have HM4 : Hid (∃ M, MailsAt w4 (.slice ma R.2.1.length mc) R.2.1 M) := by
      obtain ⟨p, F, M, _, hm, _⟩ := HIN.out
      rw [hvm] at hm
      exact ⟨M, hm.below hb4⟩
    have HB4 : Hid (Below w.heap.size w w4) := below_then'' (below_then'' HB1.out HIN.out.toBelow HB1.out.size) hb4 (Nat.le_trans HB1.out.size HIN.out.size)
    have G4 := G3.below' hb4
    obtain ⟨ov', hov'⟩ : ∃ ov', R.2.2.over = ov' := ⟨_, rfl⟩
    obtain ⟨ms, hms⟩ : ∃ ms, R.2.1 = ms := ⟨_, rfl⟩
    have HAT2 := HAT.out
    have HOV2 := HOV.out
    have HM42 := HM4.out
    have HK22 := HK2.out
    rw [hov'] at HAT2 HOV2 ⊢
    rw [hms] at HM42 HK22 ⊢
    have HAT3 := Lib.hid HAT2
    have HOV3 := Lib.hid HOV2
    have HM3 := Lib.hid HM42
    have HK3 := Lib.hid HK22
    clear HAT2 HOV2 HM42 HK22 HAT HOV HM4 HK2 ho hb4 hvm HIN hrw HRS HROWS HR hov' hms k3
    go_wp2_with fail
    go_loopg [12] rows.length (fun g v12 wx => ∃ i : Nat, i + g = rows.length ∧ v12 = .int .i64 i ∧ Below w4.heap.size w4 wx)
    case atStart => exact ⟨0, by omega, rfl, Below.refl _ _⟩
    case round =>
      obtain ⟨i, hig, rfl, hbx⟩ := hrel
      have HBX := Lib.hid hbx
      have GX := G4.below' hbx
      clear hbx
      cases gk with
      | succ g =>
        have hi : i < rows.length := by omega
        have d : decide ((i : Int) < (rows.length : Int)) = true := by simp; omega
        have hi0 : (0 : Int) ≤ (i : Int) := by omega
        have hil : (i : Int) < (rows.length : Int) := by omega
        have hrl := HRL.out
        have hjw : IntKind.i64.wrap ((i : Int) + 1) = ((i + 1 : Nat) : Int) := by rw [IntWalk.i64_in _ ⟨by omega, by omega⟩]; omega
        obtain ⟨el, hel⟩ : ∃ el, rows.length - 1 = el := ⟨_, rfl⟩
        have hw1 : IntKind.i64.wrap ((rows.length : Int) - 1) = (el : Int) := by rw [IntWalk.i64_in _ ⟨by omega, by omega⟩]; omega
        obtain ⟨r, hr⟩ : ∃ r, rows[i]? = some r := ⟨rows[i], List.getElem?_eq_getElem hi⟩
        obtain ⟨hrlen, hline, hcase⟩ := HAT3.out i r hr
        obtain ⟨q, hq, hdr, h3, hpt⟩ := line_facts r hline
        obtain ⟨ka, off, rfl, hcx⟩ : ∃ k off, oa = some ⟨k, off, none⟩ ∧ wr.cell? ⟨k, off + i, none⟩ = some (S r) := by
          obtain ⟨a', c', e, hrd⟩ := HRD.out.below HBX.out
          cases e
          obtain ⟨k, off, e2, hrd⟩ := hrd (by intro e; rw [e] at hi; simp at hi)
          exact ⟨k, off, e2, hrd i r hr⟩
        obtain ⟨n, hpn⟩ : ∃ n, (parseL (r.take 3) 221 554).1 = n := ⟨_, rfl⟩
        have HP : Hid (parseL (r.take 3) 221 554 = (n, true)) := by unfold Hid; rw [← hpn, ← hpt]
        rw [hpn] at hcase
        have d7 : decide ((List.length r : Int) < 7) = false := by simp; omega
        have hw2 : IntKind.i64.wrap ((List.length r : Int) - 2) = ((q + 5 : Nat) : Int) := by rw [IntWalk.i64_in _ ⟨by omega, by omega⟩]; omega
        have hq5 : ((q + 5 : Nat) : Int) ≤ (List.length r : Int) := by omega
        have hq0 : (0 : Int) ≤ ((q + 5 : Nat) : Int) := by omega
        have hr3 : (3 : Int) < (List.length r : Int) := by omega
        have hr3' : (3 : Int) ≤ (List.length r : Int) := by omega
        have l3 : 3 < (⟨r.toArray⟩ : ByteArray).size := by show 3 < r.length; omega
        obtain ⟨ch, hch⟩ : ∃ ch : UInt8, (⟨r.toArray⟩ : ByteArray)[3]'l3 = ch := ⟨_, rfl⟩
        have hc3 : ch = 32 ∨ ch = 45 := by
          have e3 : r[3]? = some ch := by rw [List.getElem?_eq_getElem (by omega), ← hch]; rfl
          rw [e3] at h3
          rcases h3 with q3 | q3
          · exact .inl (Option.some.inj q3)
          · exact .inr (Option.some.inj q3)
        have HQ := Lib.hid hq
        have htl : (r.take 3).length ≤ 281474976710656 := by simp; omega
        clear hq hline hpt h3 hr hpn hrl
        have key32 : ch = 32 → ((((⟨r.toArray⟩ : ByteArray)[3]'l3).toNat : Int) != 32) = false := fun e => by rw [hch, e]; rfl
        have key45 : ch = 45 → ((((⟨r.toArray⟩ : ByteArray)[3]'l3).toNat : Int) != 32) = true ∧ ((((⟨r.toArray⟩ : ByteArray)[3]'l3).toNat : Int) != 45) = false := fun e => by rw [hch, e]; exact ⟨rfl, rfl⟩
        clear hch
        rcases hcase with ⟨hn1, hlt⟩ | ⟨rfl, hov1, hlast⟩
        · have dn : (n == 221) = false := by simpa using hn1
          clear hn1
          cases ov'
          · clear hel
            rcases hc3 with e3 | e3
            · have d32 := key32 e3
              clear key32 key45 e3
              go_wp2_with fail
              refine (parse_calls (r.take 3) 221 554 htl _ GX).mono ?_
              rw [HP.out]
              rintro e w5 ⟨rfl, hb5⟩
              have HB5 := Lib.hid hb5
              clear hb5
              go_wp2
              go_roundg g
              case measure => omega
              case rel => exact ⟨i + 1, by omega, by simp, below_then'' HBX.out HB5.out HBX.out.size⟩
            · obtain ⟨d32, d45⟩ := key45 e3
              clear key32 key45 e3
              go_wp2_with fail
              refine (parse_calls (r.take 3) 221 554 htl _ GX).mono ?_
              rw [HP.out]
              rintro e w5 ⟨rfl, hb5⟩
              have HB5 := Lib.hid hb5
              clear hb5
              go_wp2
              go_roundg g
              case measure => omega
              case rel => exact ⟨i + 1, by omega, by simp, below_then'' HBX.out HB5.out HBX.out.size⟩
          · have hlt2 := hlt rfl
            have di : ((i : Int) == (el : Int)) = false := by rw [beq_eq_false_iff_ne]; omega
            clear hlt hlt2 hel
            rcases hc3 with e3 | e3
            · have d32 := key32 e3
              clear key32 key45 e3
              go_wp2_with fail
              refine (parse_calls (r.take 3) 221 554 htl _ GX).mono ?_
              rw [HP.out]
              rintro e w5 ⟨rfl, hb5⟩
              have HB5 := Lib.hid hb5
              clear hb5
              go_wp2
              go_roundg g
              case measure => omega
              case rel => exact ⟨i + 1, by omega, by simp, below_then'' HBX.out HB5.out HBX.out.size⟩
            · obtain ⟨d32, d45⟩ := key45 e3
              clear key32 key45 e3
              go_wp2_with fail
              refine (parse_calls (r.take 3) 221 554 htl _ GX).mono ?_
              rw [HP.out]
              rintro e w5 ⟨rfl, hb5⟩
              have HB5 := Lib.hid hb5
              clear hb5
              go_wp2
              go_roundg g
              case measure => omega
              case rel => exact ⟨i + 1, by omega, by simp, below_then'' HBX.out HB5.out HBX.out.size⟩
        · subst hov1
          obtain rfl : i = el := by omega
          clear hlast hel
          rcases hc3 with e3 | e3
          · have d32 := key32 e3
            clear key32 key45 e3
            go_wp2_with fail
            refine (parse_calls (r.take 3) 221 554 htl _ GX).mono ?_
            rw [HP.out]
            rintro e w5 ⟨rfl, hb5⟩
            have HB5 := Lib.hid hb5
            clear hb5
            go_wp2
            go_roundg g
            case measure => omega
            case rel => exact ⟨i + 1, by omega, by simp, below_then'' HBX.out HB5.out HBX.out.size⟩
          · obtain ⟨d32, d45⟩ := key45 e3
            clear key32 key45 e3
            go_wp2_with fail
            refine (parse_calls (r.take 3) 221 554 htl _ GX).mono ?_
            rw [HP.out]
            rintro e w5 ⟨rfl, hb5⟩
            have HB5 := Lib.hid hb5
            clear hb5
            go_wp2
            go_roundg g
            case measure => omega
            case rel => exact ⟨i + 1, by omega, by simp, below_then'' HBX.out HB5.out HBX.out.size⟩
      | zero =>
        have d : decide ((i : Int) < (rows.length : Int)) = false := by simp; omega
        obtain ⟨nr, hnr⟩ : ∃ nr, rows.length = nr := ⟨_, rfl⟩
        have HOV4 : Hid (ov' = true → 0 < nr) := by rw [← hnr]; exact HOV3.out
        rw [hnr] at hig d ⊢
        obtain rfl : nr = i := by omega
        have HNR := Lib.hid hnr
        clear hnr
        obtain ⟨wq, hwq⟩ : ∃ wq, wq = wr := ⟨_, rfl⟩
        have HBQ : Hid (Below w4.heap.size w4 wq) := by rw [hwq]; exact HBX.out
        rw [← hwq]
        have HMQ : Hid (∃ M, MailsAt wq (.slice ma ms.length mc) ms M) := by
          obtain ⟨M, hm⟩ := HM3.out
          exact ⟨M, hm.below HBQ.out⟩
        clear hwq
        go_wp2_with fail
        go_loopg [16] ms.length (fun g v16 wx => ∃ j : Nat, j + g = ms.length ∧ v16 = .int .i64 j ∧ Below wq.heap.size wq wx)
        case atStart => exact ⟨0, by omega, rfl, Below.refl _ _⟩
        case round =>
          obtain ⟨j, hjg, rfl, hby⟩ := hrel
          have HBY := Lib.hid hby
          clear hby
          have HBW : Hid (Below w.heap.size w wr) := below_then'' (below_then'' HB4.out HBQ.out HB4.out.size) HBY.out (Nat.le_trans HB4.out.size HBQ.out.size)
          cases gk with
          | zero =>
            have dj : decide ((j : Int) < (ms.length : Int)) = false := by simp; omega
            have hov4 := HOV4.out
            cases ov'
            · clear hov4
              by_cases h0 : nr = 0
              · subst h0
                go_wp2
                go_ret
                exact ⟨rfl, HBW.out⟩
              · obtain ⟨k, rfl⟩ : ∃ k, nr = k + 1 := ⟨nr - 1, by omega⟩
                clear h0
                go_wp2
                go_ret
                exact ⟨rfl, HBW.out⟩
            · obtain ⟨k, rfl⟩ : ∃ k, nr = k + 1 := ⟨nr - 1, by have := hov4 rfl; omega⟩
              clear hov4
              go_wp2
              go_ret
              exact ⟨rfl, HBW.out⟩
          | succ g =>
            obtain ⟨wy, rfl⟩ : ∃ wy : World, wy = wr := ⟨_, rfl⟩
            have hj : j < ms.length := by omega
            have dj : decide ((j : Int) < (ms.length : Int)) = true := by simp; omega
            have hj0 : (0 : Int) ≤ (j : Int) := by omega
            have hjl : (j : Int) < (ms.length : Int) := by omega
            have hml : ms.length ≤ 9223372036854775807 := by obtain ⟨M, hm⟩ := HMQ.out; exact hm.len
            have hjw : IntKind.i64.wrap ((j : Int) + 1) = ((j + 1 : Nat) : Int) := by rw [IntWalk.i64_in _ ⟨by omega, by omega⟩]; omega
            obtain ⟨mm, hmm⟩ : ∃ mm, ms[j]? = some mm := ⟨ms[j], List.getElem?_eq_getElem hj⟩
            obtain ⟨o1, o2, o3, o4, o5⟩ := HK3.out mm (List.mem_of_getElem? hmm)
            obtain ⟨g1, tv, hv1, A0, A1, A2, rw1⟩ : ∃ g v, ma = some ⟨g, 0, none⟩ ∧ wy.cell? ⟨g, j * 3, none⟩ = some (S mm.1) ∧ wy.cell? ⟨g, j * 3 + 1, none⟩ = some v ∧ wy.cell? ⟨g, j * 3 + 2, none⟩ = some (S mm.2.2) ∧ RowAt wy 9 v (strsV mm.2.1) := by
              obtain ⟨M, hm⟩ := HMQ.out
              obtain ⟨g, c9, e, hg⟩ := (hm.below HBY.out).get (by intro e; rw [e] at hj; simp at hj)
              cases e
              obtain ⟨v, q1, q2, q3, q4⟩ := hg j mm hmm
              rw [Nat.mul_comm] at q1 q2 q3
              exact ⟨g, v, rfl, q1, q2, q3, q4⟩
            subst hv1
            obtain ⟨tl, htl'⟩ : ∃ tl, mm.2.1 = tl := ⟨_, rfl⟩
            rw [htl'] at o1 o2 o3 o4 rw1
            obtain ⟨kb, ob, tc, htv, hcell⟩ := rw1.cells (by intro e; have q9 := congrArg List.length e; rw [strsV_len] at q9; rw [q9] at o1; exact absurd o1 (by simp))
            rw [strsV_len] at htv
            subst htv
            obtain ⟨w6, hw6⟩ : ∃ w6, wy.alloc (.cells #[S mm.1, .slice (some ⟨kb, ob, none⟩) tl.length tc, S mm.2.2] 35) = w6 := ⟨_, rfl⟩
            have hb6 : Below wy.heap.size wy w6 := by rw [← hw6]; exact (Below.refl _ _).alloc (Nat.le_refl _) _
            have hn6 : w6.heap[wy.heap.size]? = some (.cells #[S mm.1, .slice (some ⟨kb, ob, none⟩) tl.length tc, S mm.2.2] 35 (0, 0)) := by rw [← hw6]; exact heap_alloc_new _ _
            have f1 : w6.cell? ⟨wy.heap.size, 1, none⟩ = some (.slice (some ⟨kb, ob, none⟩) tl.length tc) := by simp [World.cell?, hn6]
            have f2 : w6.cell? ⟨wy.heap.size, 2, none⟩ = some (S mm.2.2) := by simp [World.cell?, hn6]
            have hrow6 : RowAt w6 9 (.slice (some ⟨kb, ob, none⟩) tl.length tc) (strsV tl) := rw1.heap fun k e => hb6.block k (rw1.lt k e).2
            have HR6 := Lib.hid hrow6
            have HCE : Hid (∀ t x, tl[t]? = some x → w6.cell? ⟨kb, ob + t, none⟩ = some (S x)) := fun t x hx => (World.cell?_of_block (hb6.block kb (World.block_lt_of_cell? _ _ (hcell t (S x) (by simp [strsV, hx]))))).trans (hcell t (S x) (by simp [strsV, hx]))
            have HB6 := Lib.hid hb6
            have hcap : (tl.length : Int) ≤ (tc : Int) := by
              rcases hrow6 with ⟨e, _⟩ | ⟨_, _, _, _, e, _, _, _, h2, _⟩
              · cases e
              · rw [strsV_len] at e h2; cases e; omega
            have d1 : decide ((tl.length : Int) < 1) = false := by simp; omega
            have d16 : decide ((16 : Int) < (tl.length : Int)) = false := by simp; omega
            have hmm2 : ((mostL m : Nat) : Int) = min (max m 1) 65536 := by unfold mostL; omega
            have dB : decide (min (max m 1) 65536 < (List.length mm.2.2 : Int)) = false := by rw [← hmm2]; exact decide_eq_false (by omega)
            clear hmm2
            have O3 := Lib.hid o3
            have O4 := Lib.hid o4
            have HW6 := Lib.hid hw6
            clear hmm rw1 hcell hrow6 hb6 hn6 o3 o4
            go_wp2_with fail
            clear hw6
            go_loopg [18] tl.length (fun g2 v18 wx => ∃ t : Nat, t + g2 = tl.length ∧ v18 = .int .i64 t ∧ Below w6.heap.size w6 wx)
            case atStart => exact ⟨0, by omega, rfl, Below.refl _ _⟩
            case round =>
              obtain ⟨t, htg, rfl, hbz⟩ := hrel
              have HBZ := Lib.hid hbz
              have e1 := cellB hbz f1
              clear hbz
              cases gk with
              | zero =>
                have dt : decide ((t : Int) < (tl.length : Int)) = false := by simp; omega
                go_wp2
                go_roundg g
                case measure => omega
                case rel => exact ⟨j + 1, by omega, by simp, below_then'' (below_then'' HBY.out HB6.out HBY.out.size) HBZ.out (Nat.le_trans HBY.out.size HB6.out.size)⟩
              | succ g2 =>
                have ht : t < tl.length := by omega
                have dt : decide ((t : Int) < (tl.length : Int)) = true := by simp; omega
                have ht0 : (0 : Int) ≤ (t : Int) := by omega
                have htn : (t : Int) < (tl.length : Int) := by omega
                have htn' : (t : Int) ≤ (tl.length : Int) := by omega
                have htc : (t : Int) ≤ (tc : Int) := by omega
                have htw : IntKind.i64.wrap ((t : Int) + 1) = ((t + 1 : Nat) : Int) := by rw [IntWalk.i64_in _ ⟨by omega, by omega⟩]; omega
                obtain ⟨x, hx⟩ : ∃ x, tl[t]? = some x := ⟨tl[t], List.getElem?_eq_getElem ht⟩
                obtain ⟨x3, x254⟩ := O4.out x (List.mem_of_getElem? hx)
                have dx3 : decide ((List.length x : Int) < 3) = false := by simp; omega
                have dx4 : decide ((254 : Int) < (List.length x : Int)) = false := by simp; omega
                have e2 : wr.drew.cell? ⟨kb, ob + t, none⟩ = some (S x) := cellB HBZ.out (HCE.out t x hx)
                have e1d : wr.drew.cell? ⟨wy.heap.size, 1, none⟩ = some (.slice (some ⟨kb, ob, none⟩) tl.length tc) := e1
                have hno : Hid ((tl.take t).contains x = false) := by
                  unfold Hid
                  rw [List.contains_eq_mem, decide_eq_false_iff_not]
                  intro hmem
                  obtain ⟨p, hp, hpx⟩ := List.getElem_of_mem hmem
                  rw [List.getElem_take] at hpx
                  have hpl : p < t := by rw [List.length_take] at hp; omega
                  rw [List.getElem?_eq_getElem ht] at hx
                  have := (List.getElem_inj O3.out).1 (hpx.trans (Option.some.inj hx).symm)
                  omega
                have HRT : Hid (ReadsAt wr.drew (.slice (some ⟨kb, ob, none⟩) t tc) (tl.take t)) := by
                  have hlen : (tl.take t).length = t := by rw [List.length_take]; omega
                  refine ⟨some ⟨kb, ob, none⟩, tc, by rw [hlen], fun _ => ⟨kb, ob, rfl, fun p y hp => ?_⟩⟩
                  have hpt : p < t := by have := (List.getElem?_eq_some_iff.1 hp).1; omega
                  rw [List.getElem?_take_of_lt hpt] at hp
                  exact cellB HBZ.out (HCE.out p y hp)
                clear hx
                go_wp2_with fail
                go_region_held3 (fun w' => w'.cell? ⟨wy.heap.size, 1, none⟩ = some (.slice (some ⟨kb, ob, none⟩) tl.length tc) ∧ w'.cell? ⟨kb, ob + t, none⟩ = some (S x)) (first | assumption | exact ⟨e1d, e2⟩)
                  (first | (go_at_call 27; refine (has_calls _ _ (tl.take t) HRT.out (by rw [List.length_take]; omega) x).mono ?_; rw [hno.out]; rintro eS wS ⟨rfl, hwS⟩; rw [hwS]))
                go_wp2
                go_roundg g2
                case measure => omega
                case rel => exact ⟨t + 1, by omega, by simp, HBZ.out.drew⟩
end Go.Proofs.YtapanjfheddfnaaGreatDoor
