/- The contracts of the text functions of package smtp, continued. -/
import Derived.Test.YtapanjfheddfnaaGreatDoorStr
namespace Go.Proofs.YtapanjfheddfnaaGreatDoor
open Go.RowKit
attribute [local go_sem ↓] Go.wp_at_zero Go.wp_at_succ
attribute [local go_sem high] ext_to ext_from
attribute [local go_sem] ext_list app_list size_list

set_option maxRecDepth 100000 in
theorem cut_calls (l b : Bs) (hs : b.length < 35184372088832) (w : World) (G : Glob w) :
    Calls Tryz.prog 123 #[S l, S b] w fun e w' => e = .returned (.tuple #[S (cutL l b).1, .bool (cutL l b).2]) ∧ Below w.heap.size w w' := by
  by_cases h1 : l.length < b.length
  · have d1 : decide (l.length < b.length) = true := decide_eq_true h1
    have HW : Hid (cutL l b = (l, false)) := by unfold Hid cutL; rw [if_pos h1]
    go_enter Tryz.func123, Tryz.ntmps123
    go_wp2
    go_ret2
    rw [HW.out]
    exact ⟨rfl, Below.refl _ _⟩
  · have d1 : decide (l.length < b.length) = false := decide_eq_false h1
    have hb : b.length ≤ l.length := by omega
    have hbi : (b.length : Int) ≤ (l.length : Int) := by omega
    have ht : (l.take b.length).length < 35184372088832 := by simp; omega
    by_cases h2 : greatL (l.take b.length) = b
    · have HW : Hid (cutL l b = (l.drop b.length, true)) := by unfold Hid cutL; rw [if_neg h1, if_pos h2]
      have H2 : Hid (greatL (l.take b.length) = b) := h2
      clear h2 h1
      go_enter Tryz.func123, Tryz.ntmps123
      go_wp2_with fail
      refine (great_calls _ ht _ G).mono ?_
      rw [H2.out]
      rintro e w1 ⟨rfl, hb1⟩
      go_wp2
      go_ret2
      rw [HW.out]
      exact ⟨rfl, hb1⟩
    · have HW : Hid (cutL l b = (l, false)) := by unfold Hid cutL; rw [if_neg h1, if_neg h2]
      obtain ⟨c, hc⟩ : ∃ c, greatL (l.take b.length) = c := ⟨_, rfl⟩
      rw [hc] at h2
      have H2 : Hid (greatL (l.take b.length) = c) := hc
      have d2 : (c == b) = false := beq_eq_false_iff_ne.2 h2
      clear h2 h1 hc
      go_enter Tryz.func123, Tryz.ntmps123
      go_wp2_with fail
      refine (great_calls _ ht _ G).mono ?_
      rw [H2.out]
      rintro e w1 ⟨rfl, hb1⟩
      go_wp2
      go_ret2
      rw [HW.out]
      exact ⟨rfl, hb1⟩

set_option maxRecDepth 100000 in
theorem may_calls (l : Bs) (hs : l.length < 4294967281) (w : World) (G : Glob w) :
    Calls Tryz.prog 94 #[S l] w fun e w' => e = .returned (.bool (mayL l)) ∧ Below w.heap.size w w' := by
  by_cases h1 : 2 < l.length
  · have d1 : decide (2 < l.length) = true := decide_eq_true h1
    by_cases h2 : l.length ≤ 254
    · have d2 : decide (l.length ≤ 254) = true := decide_eq_true h2
      obtain ⟨m, hm⟩ := G.ml
      have HW : Hid (mayL l = Lib.contains (l.take (l.length - 1)).tail [64]) := by unfold Hid mayL; rw [d1, d2]; rfl
      have hi1 : (1 : Int) ≤ (l.length : Int) - 1 := by omega
      have hi2 : (l.length : Int) - 1 ≤ (l.length : Int) := by omega
      have ht : (⟨(l.take (l.length - 1)).tail.toArray⟩ : ByteArray).size < 4294967281 := by show (l.take (l.length - 1)).tail.length < _; simp; omega
      go_enter Tryz.func94, Tryz.ntmps94
      go_wp2_with fail
      refine (Tryz.strings_Contains _ _ m _ ht hm).mono ?_
      rintro e w1 ⟨rfl, rfl⟩
      go_wp2
      go_ret
      rw [HW.out]
      exact ⟨rfl, Below.refl _ _⟩
    · have d2 : decide (l.length ≤ 254) = false := decide_eq_false h2
      have HW : Hid (mayL l = false) := by unfold Hid mayL; rw [d1, d2]; rfl
      go_enter Tryz.func94, Tryz.ntmps94
      go_wp2
      go_ret
      rw [HW.out]
      exact ⟨rfl, Below.refl _ _⟩
  · have d1 : decide (2 < l.length) = false := decide_eq_false h1
    have HW : Hid (mayL l = false) := by unfold Hid mayL; rw [d1]; rfl
    go_enter Tryz.func94, Tryz.ntmps94
    go_wp2
    go_ret
    rw [HW.out]
    exact ⟨rfl, Below.refl _ _⟩

def pathV (l b : Bs) : Array Value := match pathL l b with | some (x, y) => #[S x, S y, .bool true] | none => #[S [], S [], .bool false]
theorem cutL_le (l b : Bs) : (cutL l b).1.length ≤ l.length := by unfold cutL; split <;> (try split) <;> simp
theorem cut_le (l cs : Bs) : (Lib.cut l cs).1.length ≤ l.length := by unfold Lib.cut; split <;> simp; omega
theorem trimPrefix_le (l q : Bs) : (Lib.trimPrefix l q).length ≤ l.length := by unfold Lib.trimPrefix; split <;> simp
theorem cut2_le (l cs : Bs) : (Lib.cut l cs).2.1.length ≤ l.length := by unfold Lib.cut; split <;> simp
theorem pathL_le {l b a r : Bs} (h : pathL l b = some (a, r)) : a.length ≤ l.length ∧ r.length ≤ l.length := by
  have e1 := cutL_le l b
  have e2 := trimLeftS_le (cutL l b).1 blanks
  have e3 := trimPrefix_le (Lib.trimLeftS (cutL l b).1 blanks) [60]
  have e4 := cut_le (Lib.trimPrefix (Lib.trimLeftS (cutL l b).1 blanks) [60]) [62]
  have e5 := cut2_le (Lib.trimPrefix (Lib.trimLeftS (cutL l b).1 blanks) [60]) [62]
  unfold pathL at h
  split at h
  · split at h
    · split at h
      · split at h
        · obtain ⟨rfl, rfl⟩ : _ ∧ _ := by simpa using h
          omega
        · cases h
      · cases h
    · cases h
  · cases h
set_option maxRecDepth 100000 in
theorem path_calls (l b : Bs) (hs : l.length < 4294967281) (hb : b.length < 35184372088832) (w : World) (G : Glob w) :
    Calls Tryz.prog 93 #[S l, S b] w fun e w' => e = .returned (.tuple (pathV l b)) ∧ Below w.heap.size w w' := by
  obtain ⟨c, hc⟩ : ∃ c, cutL l b = c := ⟨_, rfl⟩
  obtain ⟨c1, c2⟩ := c
  have HC : Hid (cutL l b = (c1, c2)) := hc
  have hcl : c1.length ≤ l.length := by have := cutL_le l b; rw [hc] at this; exact this
  cases c2
  · have HW : Hid (pathV l b = #[S [], S [], .bool false]) := by unfold Hid pathV pathL; rw [HC.out]; rfl
    clear hc
    go_enter Tryz.func93, Tryz.ntmps93
    go_wp2_with fail
    refine (cut_calls l b hb _ G).mono ?_
    rw [HC.out]
    rintro e w1 ⟨rfl, hb1⟩
    go_wp2
    go_ret3
    rw [HW.out]
    exact ⟨rfl, hb1⟩
  · obtain ⟨t, ht⟩ : ∃ t, Lib.trimLeftS c1 blanks = t := ⟨_, rfl⟩
    have HT : Hid (Lib.trimLeftS c1 blanks = t) := ht
    have htl : t.length ≤ c1.length := by rw [← ht]; exact trimLeftS_le _ _
    clear hc ht
    cases hp : Lib.hasPrefix t [60]
    · have HW : Hid (pathV l b = #[S [], S [], .bool false]) := by unfold Hid pathV pathL; rw [HC.out]; simp [HT.out, hp]
      have HP : Hid (Lib.hasPrefix t [60] = false) := hp
      clear hp
      go_enter Tryz.func93, Tryz.ntmps93
      go_wp2_with fail
      refine (cut_calls l b hb _ G).mono ?_
      rw [HC.out]
      rintro e w1 ⟨rfl, hb1⟩
      go_wp2_with fail
      refine (trimLeft_calls c1 _).mono ?_
      rw [HT.out]
      rintro e w2 ⟨rfl, hb2⟩
      go_wp2_with fail
      refine (Tryz.strings_CutPrefix ⟨t.toArray⟩ ⟨#[60]⟩ _).mono ?_
      show ∀ e w', e = Ending.returned (.tuple #[S (Lib.trimPrefix t [60]), .bool (Lib.hasPrefix t [60])]) ∧ _ → _
      rw [HP.out]
      rintro e w3 ⟨rfl, rfl⟩
      go_wp2
      go_ret3
      rw [HW.out]
      exact ⟨rfl, below_then' hb1 hb2⟩
    · have HP : Hid (Lib.hasPrefix t [60] = true) := hp
      obtain ⟨u, hu⟩ : ∃ u, Lib.trimPrefix t [60] = u := ⟨_, rfl⟩
      have HU : Hid (Lib.trimPrefix t [60] = u) := hu
      have hul : u.length ≤ t.length := by rw [← hu]; exact Lib.trimPrefix_le _ _
      obtain ⟨d, hd⟩ : ∃ d, Lib.cut u [62] = d := ⟨_, rfl⟩
      obtain ⟨d1, d2, d3⟩ := d
      have HD : Hid (Lib.cut u [62] = (d1, d2, d3)) := hd
      have hdl : d1.length ≤ u.length := by have := cut_le u [62]; rw [hd] at this; exact this
      obtain ⟨m, hm⟩ := G.ml
      clear hd hu
      have hu2 : (⟨u.toArray⟩ : ByteArray).size < 4294967281 := by show u.length < _; omega
      cases d3
      · have HW : Hid (pathV l b = #[S [], S [], .bool false]) := by unfold Hid pathV pathL; rw [HC.out]; simp [HT.out, hp, HU.out, HD.out]
        clear hp
        go_enter Tryz.func93, Tryz.ntmps93
        go_wp2_with fail
        refine (cut_calls l b hb _ G).mono ?_
        rw [HC.out]
        rintro e w1 ⟨rfl, hb1⟩
        go_wp2_with fail
        refine (trimLeft_calls c1 _).mono ?_
        rw [HT.out]
        rintro e w2 ⟨rfl, hb2⟩
        go_wp2_with fail
        refine (Tryz.strings_CutPrefix ⟨t.toArray⟩ ⟨#[60]⟩ _).mono ?_
        show ∀ e w', e = Ending.returned (.tuple #[S (Lib.trimPrefix t [60]), .bool (Lib.hasPrefix t [60])]) ∧ _ → _
        rw [HP.out, HU.out]
        rintro e w3 ⟨rfl, rfl⟩
        have hb3 := below_then' hb1 hb2
        obtain ⟨m, hm⟩ := (G.below' hb3).ml
        go_wp2_with fail
        refine (Tryz.strings_Cut ⟨u.toArray⟩ ⟨#[62]⟩ m _ hu2 hm).mono ?_
        show ∀ e w', e = Ending.returned (.tuple #[S (Lib.cut u [62]).1, S (Lib.cut u [62]).2.1, .bool (Lib.cut u [62]).2.2]) ∧ _ → _
        rw [HD.out]
        rintro e w4 ⟨rfl, n4, rfl⟩
        go_wp2
        go_ret3
        rw [HW.out]
        exact ⟨rfl, below_drewN' hb3 _⟩
      · have HN : Hid (d1.all pathC = false → pathV l b = #[S [], S [], .bool false]) := fun hq => by unfold pathV pathL; rw [HC.out]; simp [HT.out, hp, HU.out, HD.out, hq]
        have HY : Hid (d1.all pathC = true → pathV l b = #[S d1, S d2, .bool true]) := fun hq => by unfold pathV pathL; rw [HC.out]; simp [HT.out, hp, HU.out, HD.out, hq]
        clear hp
        go_enter Tryz.func93, Tryz.ntmps93
        go_wp2_with fail
        refine (cut_calls l b hb _ G).mono ?_
        rw [HC.out]
        rintro e w1 ⟨rfl, hb1⟩
        go_wp2_with fail
        refine (trimLeft_calls c1 _).mono ?_
        rw [HT.out]
        rintro e w2 ⟨rfl, hb2⟩
        go_wp2_with fail
        refine (Tryz.strings_CutPrefix ⟨t.toArray⟩ ⟨#[60]⟩ _).mono ?_
        show ∀ e w', e = Ending.returned (.tuple #[S (Lib.trimPrefix t [60]), .bool (Lib.hasPrefix t [60])]) ∧ _ → _
        rw [HP.out, HU.out]
        rintro e w3 ⟨rfl, rfl⟩
        have hb3 := below_then' hb1 hb2
        obtain ⟨m, hm⟩ := (G.below' hb3).ml
        go_wp2_with fail
        refine (Tryz.strings_Cut ⟨u.toArray⟩ ⟨#[62]⟩ m _ hu2 hm).mono ?_
        show ∀ e w', e = Ending.returned (.tuple #[S (Lib.cut u [62]).1, S (Lib.cut u [62]).2.1, .bool (Lib.cut u [62]).2.2]) ∧ _ → _
        rw [HD.out]
        rintro e w4 ⟨rfl, n4, rfl⟩
        obtain ⟨W, hW⟩ : ∃ W, Lib.bytesWorld (w3.drewN n4) 5 ⟨d1.toArray⟩ = W := ⟨_, rfl⟩
        have hcv := Lib.run_convert_string_bytes (P := Tryz.prog) (w3.drewN n4) 9 67 5 ⟨d1.toArray⟩ Tryz.underlying9 Tryz.underlying67 Tryz.underlying5
        have hbW := Joins.below_bytesWorld w3.heap.size (w3.drewN n4) 5 ⟨d1.toArray⟩ (Nat.le_refl _)
        have hcell := fun j (hj : j < d1.length) => Lib.bytesWorld_cell (w3.drewN n4) 5 ⟨d1.toArray⟩ j hj
        rw [hW] at hcv hbW hcell
        clear hW
        have hbA := below_then' hb3 ((Below.refl w3.heap.size w3 |> fun h => below_drewN' h n4).trans hbW)
        have hdi : (d1.length : Int) ≤ 9223372036854775807 := by have : d1.length ≤ l.length := by omega
                                                                 omega
        have HCell := Lib.hid hcell
        clear hcell hbW hb3 hb2 hb1 hm
        go_wp2_with fail
        go_loop [4, 5, 36] (fun v4 v5 i => ∃ k : Nat, k ≤ d1.length ∧ v4 = S d1 ∧ v5 = S d2 ∧ i = .int .i64 k ∧ Hid ((d1.take k).all pathC = true)) (fun _ _ i => d1.length - (intOf i).toNat)
        case atStart => exact ⟨0, Nat.zero_le _, rfl, rfl, rfl, by simp [Hid]⟩
        case round =>
          obtain ⟨k, hk, rfl, rfl, rfl, hal⟩ := hrel
          by_cases hlt : k < d1.length
          · have hc1 := HCell.out k hlt
            obtain ⟨x, hx⟩ : ∃ x, d1[k]'hlt = x := ⟨_, rfl⟩
            have hxk : d1[k]? = some x := by rw [← hx]; exact List.getElem?_eq_getElem hlt
            have hc2 : W.cell? ⟨w3.heap.size, k, none⟩ = some (.int .u8 x.toNat) := by
              rw [show (w3.drewN n4).heap.size = w3.heap.size from rfl] at hc1
              rw [hc1]; simp [List.getD, hxk]
            have hall : (d1.take (k + 1)).all pathC = ((d1.take k).all pathC && pathC x) := by
              rw [List.take_add_one, hxk]; simp
            clear hc1
            have dlt : (k : Int) < (d1.length : Int) := by omega
            cases hpc : pathC x
            · have hbad : Hid (d1.all pathC = false) := by
                unfold Hid
                rw [List.all_eq_false]
                exact ⟨x, List.mem_of_getElem? hxk, by simp [hpc]⟩
              have hp3 : x.toNat ≤ 32 ∨ 126 < x.toNat ∨ x.toNat = 60 := by
                rcases Nat.lt_or_ge 32 x.toNat with q1 | q1
                · rcases Nat.lt_or_ge 126 x.toNat with q2 | q2
                  · exact .inr (.inl q2)
                  · refine .inr (.inr ?_)
                    have q3 : (x != 60) = false := by
                      cases q : (x != 60)
                      · rfl
                      · simp [pathC, UInt8.lt_iff_toNat_lt, UInt8.le_iff_toNat_le] at hpc; exact absurd (hpc q1 q2) (by simpa using q)
                    have : x = 60 := by simpa using q3
                    rw [this]; rfl
                · exact .inl q1
              clear hall hx hxk hpc
              by_cases q1 : x.toNat ≤ 32
              · have p1 : decide ((x.toNat : Int) ≤ 32) = true := by simp; omega
                clear hp3
                go_wp2
                go_ret3
                rw [HN.out hbad.out]; exact ⟨rfl, hbA⟩
              · have p1 : decide ((x.toNat : Int) ≤ 32) = false := by simp; omega
                by_cases q2 : 126 < x.toNat
                · have p2 : decide ((126 : Int) < (x.toNat : Int)) = true := by simp; omega
                  clear hp3
                  go_wp2
                  go_ret3
                  rw [HN.out hbad.out]; exact ⟨rfl, hbA⟩
                · have p2 : decide ((126 : Int) < (x.toNat : Int)) = false := by simp; omega
                  have p3 : ((x.toNat : Int) == 60) = true := by simp; omega
                  clear hp3
                  go_wp2
                  go_ret3
                  rw [HN.out hbad.out]; exact ⟨rfl, hbA⟩
            · have hgood : Hid ((d1.take (k + 1)).all pathC = true) := by unfold Hid; rw [hall, hal.out, hpc]; rfl
              have hp3 : 32 < x.toNat ∧ x.toNat ≤ 126 ∧ x.toNat ≠ 60 := by
                simp [pathC, UInt8.lt_iff_toNat_lt, UInt8.le_iff_toNat_le] at hpc
                refine ⟨by omega, by omega, fun e => hpc.2 (UInt8.toNat_inj.1 (by simpa using e))⟩
              have p1 : decide ((x.toNat : Int) ≤ 32) = false := by simp; omega
              have p2 : decide ((126 : Int) < (x.toNat : Int)) = false := by simp; omega
              have p3 : ((x.toNat : Int) == 60) = false := by simp; omega
              clear hall hx hxk hpc hp3
              go_wp2
              go_round
              case rel => exact ⟨k + 1, by omega, rfl, rfl, by go_num, hgood⟩
              case measure => simp [intOf]; omega
          · have hkk : k = d1.length := by omega
            have hall : Hid (d1.all pathC = true) := by unfold Hid; have := hal.out; rw [hkk, List.take_length] at this; exact this
            have dlt : ¬ (k : Int) < (d1.length : Int) := by omega
            clear hkk
            go_wp2
            go_ret3
            rw [HY.out hall.out]
            exact ⟨rfl, hbA⟩
end Go.Proofs.YtapanjfheddfnaaGreatDoor
