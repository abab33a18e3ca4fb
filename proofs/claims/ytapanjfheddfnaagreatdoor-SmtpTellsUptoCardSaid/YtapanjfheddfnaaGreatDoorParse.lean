/- num.Parse. -/
import Derived.Test.YtapanjfheddfnaaGreatDoorStr2
import Derived.Laws.RangeAny
import Derived.Lib.AtoiErrMem
namespace Go.Proofs.YtapanjfheddfnaaGreatDoor
open Go.RowKit Go.Shelf
attribute [local go_sem high] ext_to ext_from
attribute [local go_sem] ext_list app_list size_list

def digitsL (s : Bs) : Bs := Lib.trimPrefix s [45]
def isDig (c : UInt8) : Bool := 48 ≤ c && c ≤ 57
def parseL (s : Bs) (low high : Int) : Int × Bool :=
  if (digitsL s).all isDig then
    if digitsL s = [] ∨ ((digitsL s)[0]? = some 48 ∧ s ≠ [48]) then (0, false) else
    match Lib.atoiAll s with
    | .ok n => if n < low ∨ high < n then (0, false) else (n, true)
    | _ => (0, false)
  else (0, false)

theorem below_bytesWorld (w : World) (t : ByteArray) : Below w.heap.size w (Lib.bytesWorld w 5 t) := by
  exact Lib.bytesWorld_below w 5 t
theorem atoi_calls (s : Bs) (hs : s.length ≤ 281474976710656) (w : World) (G : Glob w) :
    Calls Tryz.prog 49 #[S s] w fun e w' => ((∃ v, Lib.atoiAll s = .ok v ∧ e = .returned (.tuple #[.int .i64 v, .nilIface])) ∨ ((∀ v, Lib.atoiAll s ≠ .ok v) ∧ ∃ n x, e = .returned (.tuple #[.int .i64 n, .iface 115 x]))) ∧ Below w.heap.size w w' := by
  rcases h : Lib.atoiAll s with v | _ | _
  · refine (Tryz.strconv_Atoi_ok ⟨s.toArray⟩ (by show s.length ≤ _; omega) v h w).mono ?_
    rintro e w' ⟨rfl, hw⟩
    refine ⟨.inl ⟨v, rfl, rfl⟩, ?_⟩
    rcases hw with rfl | ⟨t, rfl⟩
    · exact Below.refl _ _
    · exact below_bytesWorld w t
  · obtain ⟨te, pe, he⟩ := G.e0
    refine (Tryz.strconv_Atoi_syntax ⟨s.toArray⟩ hs h _ w he (.inr ⟨te, pe, rfl⟩)).mono ?_
    rintro e w' ⟨N, rfl, _, _, hb⟩
    exact ⟨.inr ⟨fun v q => (by cases q), _, _, rfl⟩, hb⟩
  · obtain ⟨te, pe, he⟩ := G.e1
    refine (Tryz.strconv_Atoi_range ⟨s.toArray⟩ hs h _ w he (.inr ⟨te, pe, rfl⟩)).mono ?_
    rintro e w' ⟨N, rfl, _, _, hb⟩
    exact ⟨.inr ⟨fun v q => (by cases q), _, _, rfl⟩, hb⟩

set_option maxRecDepth 100000 in
theorem parse_calls (s : Bs) (low high : Int) (hs : s.length ≤ 281474976710656) (w : World) (G : Glob w) :
    Calls Tryz.prog 26 #[S s, .int .i64 low, .int .i64 high] w fun e w' => e = .returned (.tuple #[.int .i64 (parseL s low high).1, .bool (parseL s low high).2]) ∧ Below w.heap.size w w' := by
  obtain ⟨d, hd⟩ : ∃ d, digitsL s = d := ⟨_, rfl⟩
  have HD : Hid (Lib.trimPrefix s [45] = d) := hd
  have HP : Hid (parseL s low high = if d.all isDig then
    if d = [] ∨ (d[0]? = some 48 ∧ s ≠ [48]) then (0, false) else
    match Lib.atoiAll s with
    | .ok n => if n < low ∨ high < n then (0, false) else (n, true)
    | _ => (0, false)
  else (0, false)) := by unfold Hid parseL; rw [hd]
  clear hd
  go_enter Tryz.func26, Tryz.ntmps26
  go_wp2_with fail
  refine (Tryz.strings_TrimPrefix ⟨s.toArray⟩ ⟨#[45]⟩ _).mono ?_
  show ∀ e w', e = Ending.returned (S (Lib.trimPrefix s [45])) ∧ _ → _
  rw [HD.out]
  rintro e w1 ⟨rfl, hw1⟩
  rw [hw1]
  clear hw1 w1
  go_wp2_with fail
  go_loopg [10] d.length (fun g _ wx => ∃ i : Nat, i + g = d.length ∧ wx = w.iter ⟨d.toArray⟩ i ∧ Hid ((d.take i).all isDig = true))
  case atStart => exact ⟨0, by omega, rfl, by simp [Hid]⟩
  case round =>
    obtain ⟨i, hig, rfl, hno⟩ := hrel
    cases gk with
    | zero =>
      obtain rfl : i = d.length := by omega
      have HA : Hid (d.all isDig = true) := by have := hno.out; rwa [List.take_length] at this
      clear hno
      have hb1 : Below w.heap.size w (w.iter ⟨d.toArray⟩ d.length) := (Below.refl _ w).alloc (Nat.le_refl _) _
      have hnx := run_next_end (P := Tryz.prog) w ⟨d.toArray⟩ d.length
      have G1 := G.below' hb1
      by_cases hdn : d = []
      · have hem : List.isEmpty d = true := by simp [hdn]
        have ZZ := Lib.hid hdn
        have hdt : (d = []) = True := by simp [hdn]
        clear hdn
        go_wp2
        go_ret2
        refine ⟨?_, hb1⟩
        rw [show parseL s low high = (0, false) by rw [HP.out, if_pos HA.out, if_pos (.inl ZZ.out)]]; rfl
      · have hem : List.isEmpty d = false := by simpa using hdn
        have hdl : 0 < d.length := List.length_pos_iff.2 hdn
        obtain ⟨x, hx0⟩ : ∃ x, d[0]'hdl = x := ⟨_, rfl⟩
        have hget : ∀ h, (⟨d.toArray⟩ : ByteArray)[0]'h = x := fun h => hx0
        have hd0 : Hid (d[0]? = some x) := by unfold Hid; rw [List.getElem?_eq_getElem hdl, hx0]
        have ZN := Lib.hid hdn
        clear hx0
        by_cases hx : x.toNat = 48
        · have hx' : x = 48 := UInt8.toNat_inj.1 hx
          by_cases h48 : s = [48]
          · have NN : ¬ (d = [] ∨ (d[0]? = some 48 ∧ s ≠ [48])) := fun q => q.elim ZN.out (fun q => q.2 h48)
            have p0 : (s == [48]) = true := by simp [h48]
            have p9 : ((x.toNat : Int) = 48) := by omega
            clear h48
            go_wp2_with fail
            refine (atoi_calls s hs _ G1).mono ?_
            rintro e w2 ⟨⟨v, hv, rfl⟩ | ⟨hv, n, y, rfl⟩, hb2⟩
            · have HV := Lib.hid hv
              clear hv
              by_cases q1 : v < low
              · have p1 : decide (v < low) = true := by simpa using q1
                go_wp2
                go_ret2
                refine ⟨?_, below_then' hb1 hb2⟩
                rw [show parseL s low high = (0, false) by rw [HP.out, if_pos HA.out, if_neg NN, HV.out]; exact if_pos (.inl q1)]; rfl
              · have p1 : decide (v < low) = false := by simpa using q1
                by_cases q2 : high < v
                · have p2 : decide (high < v) = true := by simpa using q2
                  go_wp2
                  go_ret2
                  refine ⟨?_, below_then' hb1 hb2⟩
                  rw [show parseL s low high = (0, false) by rw [HP.out, if_pos HA.out, if_neg NN, HV.out]; exact if_pos (.inr q2)]; rfl
                · have p2 : decide (high < v) = false := by simpa using q2
                  go_wp2
                  go_ret2
                  refine ⟨?_, below_then' hb1 hb2⟩
                  rw [show parseL s low high = (v, true) by rw [HP.out, if_pos HA.out, if_neg NN, HV.out]; exact if_neg (by omega)]; rfl
            · have HV := Lib.hid hv
              clear hv
              go_wp2
              go_ret2
              refine ⟨?_, below_then' hb1 hb2⟩
              have e0 : parseL s low high = (0, false) := by
                rw [HP.out, if_pos HA.out, if_neg NN]
                rcases hq : Lib.atoiAll s with v | _ | _
                · exact absurd hq (HV.out v)
                · rfl
                · rfl
              rw [e0]; rfl
          · have ZZ : s ≠ [48] := h48
            have p0 : (s == [48]) = false := by simpa using h48
            have p9 : ((x.toNat : Int) = 48) := by omega
            clear h48
            go_wp2
            go_ret2
            refine ⟨?_, hb1⟩
            rw [show parseL s low high = (0, false) by rw [HP.out, if_pos HA.out, if_pos (.inr ⟨by rw [hd0.out, hx'], ZZ⟩)]]; rfl
        · have NN : ¬ (d = [] ∨ (d[0]? = some 48 ∧ s ≠ [48])) := fun q => q.elim ZN.out (fun q => hx (by have := q.1; rw [hd0.out] at this; rw [Option.some.inj this]; rfl))
          have p9 : ¬ ((x.toNat : Int) = 48) := by omega
          go_wp2_with fail
          refine (atoi_calls s hs _ G1).mono ?_
          rintro e w2 ⟨⟨v, hv, rfl⟩ | ⟨hv, n, y, rfl⟩, hb2⟩
          · have HV := Lib.hid hv
            clear hv
            by_cases q1 : v < low
            · have p1 : decide (v < low) = true := by simpa using q1
              go_wp2
              go_ret2
              refine ⟨?_, below_then' hb1 hb2⟩
              rw [show parseL s low high = (0, false) by rw [HP.out, if_pos HA.out, if_neg NN, HV.out]; exact if_pos (.inl q1)]; rfl
            · have p1 : decide (v < low) = false := by simpa using q1
              by_cases q2 : high < v
              · have p2 : decide (high < v) = true := by simpa using q2
                go_wp2
                go_ret2
                refine ⟨?_, below_then' hb1 hb2⟩
                rw [show parseL s low high = (0, false) by rw [HP.out, if_pos HA.out, if_neg NN, HV.out]; exact if_pos (.inr q2)]; rfl
              · have p2 : decide (high < v) = false := by simpa using q2
                go_wp2
                go_ret2
                refine ⟨?_, below_then' hb1 hb2⟩
                rw [show parseL s low high = (v, true) by rw [HP.out, if_pos HA.out, if_neg NN, HV.out]; exact if_neg (by omega)]; rfl
          · have HV := Lib.hid hv
            clear hv
            go_wp2
            go_ret2
            refine ⟨?_, below_then' hb1 hb2⟩
            have e0 : parseL s low high = (0, false) := by
              rw [HP.out, if_pos HA.out, if_neg NN]
              rcases hq : Lib.atoiAll s with v | _ | _
              · exact absurd hq (HV.out v)
              · rfl
              · rfl
            rw [e0]; rfl
    | succ g =>
      have hi : i < d.length := by omega
      obtain ⟨x, hx⟩ : ∃ x : UInt8, d[i]'hi = x := ⟨_, rfl⟩
      have hget : ∀ h, (⟨d.toArray⟩ : ByteArray)[i]'h = x := fun h => hx
      have hxl : Hid (d[i]? = some x) := by unfold Hid; rw [← hx]; exact List.getElem?_eq_getElem hi
      have hb1 : ∀ j, Below w.heap.size w (w.iter ⟨d.toArray⟩ j) := fun j => (Below.refl _ w).alloc (Nat.le_refl _) _
      have hbad : isDig x = false → Hid (parseL s low high = (0, false)) := by
        intro q
        unfold Hid
        rw [HP.out, if_neg]
        intro q2
        rw [List.all_eq_true] at q2
        have := q2 x (List.mem_of_getElem? hxl.out)
        rw [q] at this; cases this
      have hgood : isDig x = true → Hid ((d.take (i + 1)).all isDig = true) := by
        intro q
        unfold Hid
        rw [List.take_add_one, hxl.out]
        simp [hno.out, q]
      clear hx
      by_cases hlow : x.toNat < 128
      · have hnx := fun ty => run_next_ascii (P := Tryz.prog) w ⟨d.toArray⟩ i ty hi (by rw [hget]; exact hlow)
        simp only [hget] at hnx
        cases hdg : isDig x
        · have HB := hbad hdg
          have hcase : x.toNat < 48 ∨ 57 < x.toNat := by
            simp [isDig, UInt8.le_iff_toNat_le] at hdg
            omega
          clear hbad hgood hdg
          by_cases q1 : x.toNat < 48
          · have p1 : decide ((x.toNat : Int) < 48) = true := by simp; omega
            go_wp2
            go_ret2
            exact ⟨by rw [HB.out]; rfl, hb1 _⟩
          · have p1 : decide ((x.toNat : Int) < 48) = false := by simp; omega
            have p2 : decide ((57 : Int) < (x.toNat : Int)) = true := by simp; omega
            go_wp2
            go_ret2
            exact ⟨by rw [HB.out]; rfl, hb1 _⟩
        · have HGd := hgood hdg
          have hcase : 48 ≤ x.toNat ∧ x.toNat ≤ 57 := by
            simp [isDig, UInt8.le_iff_toNat_le] at hdg
            omega
          clear hbad hgood hdg
          have p1 : decide ((x.toNat : Int) < 48) = false := by simp; omega
          have p2 : decide ((57 : Int) < (x.toNat : Int)) = false := by simp; omega
          go_wp2
          go_roundg g
          case measure => omega
          case rel => exact ⟨i + 1, by omega, rfl, HGd⟩
      · have hnx := fun ty => run_next_any (P := Tryz.prog) w ⟨d.toArray⟩ i ty hi
        have hdh := (decode_high ⟨d.toArray⟩ i hi (by rw [hget]; omega)).1
        obtain ⟨r, hr⟩ : ∃ r, (Utf8.decode ⟨d.toArray⟩ i).1 = r := ⟨_, rfl⟩
        obtain ⟨r2, hr2⟩ : ∃ r2, (Utf8.decode ⟨d.toArray⟩ i).2 = r2 := ⟨_, rfl⟩
        rw [hr, hr2] at hnx
        rw [hr] at hdh
        clear hr hr2
        have HB := hbad (by simp [isDig, UInt8.le_iff_toNat_le]; omega)
        have p1 : decide ((r : Int) < 48) = false := by simp; omega
        have p2 : decide ((57 : Int) < (r : Int)) = true := by simp; omega
        clear hbad hgood
        go_wp2
        go_ret2
        exact ⟨by rw [HB.out]; rfl, hb1 _⟩
end Go.Proofs.YtapanjfheddfnaaGreatDoor
