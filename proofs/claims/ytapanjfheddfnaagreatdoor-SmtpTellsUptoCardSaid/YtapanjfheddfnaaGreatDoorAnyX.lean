/- strings.IndexAny with the two blanks, at a text of at most 8 bytes that may hold any runes. -/
import Derived.Test.YtapanjfheddfnaaGreatDoorBase
import Derived.Test.YtapanjfheddfnaaGreatDoorPure
import Derived.Test.YtapanjfheddfnaaGreatDoorAnyP
import Derived.WalkSpells
import Derived.Deep.RegionHeld3
import Derived.Deep.DrawnRows
import Derived.WalkLawsBesides
import Derived.Shelf.Strings.IndexAnyAll
import Derived.Lib.OthersKept
import Derived.Laws.RangeAny
import Derived.Laws.Runes
import Derived.WalkMore
import Derived.IntWalk
namespace Go.Proofs.YtapanjfheddfnaaGreatDoor
open Go.RowKit
attribute [local go_sem ↓] Go.wp_at_zero Go.wp_at_succ
attribute [local go_sem high] ext_to ext_from
attribute [local go_sem] ext_list app_list size_list

theorem valid146 (r : Int) (h0 : 128 ≤ r) (h1 : r < 55296 ∨ (57343 < r ∧ r ≤ 1114111)) (w : World) : Calls Tryz.prog 146 #[.int .i32 r] w fun e w' => e = .returned (.bool true) ∧ w' = w := by
  have d1 : decide (0 ≤ r) = true := by simp; omega
  by_cases hs : r < 55296
  · have d2 : decide (r < 55296) = true := by simpa using hs
    go_enter Tryz.func146, Tryz.ntmps146
    go_wp2
    go_ret
    exact ⟨rfl, rfl⟩
  · have d2 : decide (r < 55296) = false := by simpa using hs
    have d3 : decide (57343 < r) = true := by simp; omega
    have d4 : decide (r ≤ 1114111) = true := by simp; omega
    go_enter Tryz.func146, Tryz.ntmps146
    go_wp2
    go_ret
    exact ⟨rfl, rfl⟩
theorem byteMiss (c : Nat) (w : World) : Calls Tryz.prog 145 #[.string ⟨#[]⟩, .int .u8 c] w fun e w' => e = .returned (.int .i64 (-1)) ∧ w' = w := Tryz.strings_IndexByte ⟨#[]⟩ c w

set_option maxHeartbeats 4000000 in
set_option maxRecDepth 100000 in
theorem indexRune_two (r : Int) (h : 128 ≤ r) (hv : Utf8.valid r = true) (hne : r ≠ 65533) (w : World) :
    Calls Tryz.prog 120 #[.string ⟨#[32, 9]⟩, .int .i32 r] w fun e w' => e = .returned (.int .i64 (-1)) ∧ Below w.heap.size w w' := by
  obtain ⟨e1, e2, e3⟩ := encode_facts r hv h
  have hv' : r < 55296 ∨ (57343 < r ∧ r ≤ 1114111) := by
    rw [validRune_eq] at hv; unfold validRune at hv; simp at hv; omega
  obtain ⟨E, hE⟩ : ∃ E, Utf8.encode r = E := ⟨_, rfl⟩
  rw [hE] at e1 e2 e3
  have d0 : decide (r < 128) = false := by simp; omega
  have d1 : decide (0 ≤ r) = true := by simp; omega
  have d2 : (r == 65533) = false := by simp; omega
  by_cases h2 : E.size = 2
  · obtain ⟨a, c, rfl⟩ : ∃ a c : UInt8, E = ⟨#[a, c]⟩ := by
      obtain ⟨⟨L⟩⟩ := E
      match L, h2 with
      | [a, c], _ => exact ⟨a, c, rfl⟩
    have hc1 : 128 ≤ c.toNat := e3 (by show 1 < 2; omega)
    have l1 : 1 < (⟨#[32, 9]⟩ : ByteArray).size := by decide
    have l2 : 1 < (⟨#[a, c]⟩ : ByteArray).size := by show 1 < 2; omega
    have hc2 : ((((⟨#[32, 9]⟩ : ByteArray)[1]'l1).toNat : Int) != (((⟨#[a, c]⟩ : ByteArray)[1]'l2).toNat : Int)) = true := by
      show (((9 : UInt8).toNat : Int) != (c.toNat : Int)) = true
      rw [bne_iff_ne]
      intro e
      have : (9 : UInt8).toNat = 9 := rfl
      omega
    clear e3 e1 e2 hv h2
    have hwr : IntKind.i64.wrap 2 = 2 := by decide
    go_enter Tryz.func120, Tryz.ntmps120
    go_wp2_with (first | (go_at_call 146; refine (valid146 r h (by assumption) _).mono ?_; rintro e w' ⟨rfl, hw⟩; rw [hw]))
    go_step3
    go_wp2_with fail
    go_loopg [9, 10] 0 (fun _ a9 a10 wx => a9 = .int .i64 1 ∧ a10 = .int .i64 0 ∧ wx = w)
    case atStart =>
      refine ⟨?_, rfl, rfl⟩
      rfl
    case round =>
      obtain ⟨rfl, rfl, rfl⟩ := hrel
      go_wp2_with fail
      go_step3
      go_wp2_with fail
      go_region_held3 (fun _ => True) (trivial) (fail)
      go_wp2_with fail
      all_goals go_region_held3 (fun _ => True) (trivial) (first | (go_at_call 145; refine (byteMiss _ _).mono ?_; rintro e w'' ⟨rfl, hw2⟩; rw [hw2]))
      all_goals go_wp2_with fail
      all_goals simp only [Exit.noGoto_ret, Exit.inBlock, Exit.then]
      all_goals go_ret
      all_goals exact ⟨rfl, ((Below.refl _ _).drew).drew⟩
  · obtain ⟨n, hn⟩ : ∃ n : Nat, E.size = n + 3 := ⟨E.size - 3, by omega⟩
    have hw1 : IntKind.i64.wrap ((E.size : Int) - 1) = ((n + 2 : Nat) : Int) := by rw [IntWalk.i64_in _ ⟨by omega, by omega⟩]; omega
    rw [IntWalk.i64_left] at hw1
    clear e3 e1 hv h2
    go_enter Tryz.func120, Tryz.ntmps120
    go_wp2_with (first | (go_at_call 146; refine (valid146 r h (by assumption) _).mono ?_; rintro e w' ⟨rfl, hw⟩; rw [hw]))
    go_step3
    go_wp2_with fail
    go_loopg [9, 10] 0 (fun _ a9 a10 wx => a9 = .int .i64 ((n + 2 : Nat) : Int) ∧ a10 = .int .i64 0 ∧ wx = w)
    case atStart =>
      refine ⟨?_, rfl, rfl⟩
      congr 1
      omega
    case round =>
      obtain ⟨rfl, rfl, rfl⟩ := hrel
      have hd : decide (((n + 2 : Nat) : Int) < 2) = false := by simp; omega
      go_wp2
      rw [Exit.noGoto_ret]
      go_ret
      exact ⟨rfl, Below.refl _ _⟩
set_option maxHeartbeats 4000000 in
set_option maxRecDepth 100000 in
theorem indexRune_bad (w : World) :
    Calls Tryz.prog 120 #[.string ⟨#[32, 9]⟩, .int .i32 65533] w fun e w' => e = .returned (.int .i64 (-1)) ∧ Below w.heap.size w w' := by
  obtain ⟨B, hB⟩ : ∃ B : ByteArray, (⟨#[32, 9]⟩ : ByteArray) = B := ⟨_, rfl⟩
  have hs : Hid (B.size = 2) := by unfold Hid; rw [← hB]; rfl
  have hall : Hid (∀ (i : Nat) (h : i < B.size), (B[i]'h).toNat < 128) := by
    subst hB
    intro i hi
    obtain rfl | rfl : i = 0 ∨ i = 1 := by have : i < 2 := hi; omega
    · show (32 : UInt8).toNat < 128; decide
    · show (9 : UInt8).toNat < 128; decide
  rw [hB]
  clear hB
  go_enter Tryz.func120, Tryz.ntmps120
  go_wp2_with fail
  go_loopg [5, 6] B.size (fun g _ _ wx => ∃ i : Nat, i + g = B.size ∧ wx = w.iter B i)
  case atStart => exact ⟨0, by omega, rfl⟩
  case round =>
    obtain ⟨i, hig, rfl⟩ := hrel
    cases gk with
    | zero =>
      obtain rfl : i = B.size := by omega
      have hnx := fun ty => run_next_end (P := Tryz.prog) w B B.size ty (by omega)
      go_wp2
      go_ret
      exact ⟨rfl, (Below.refl _ _).alloc (Nat.le_refl _) _⟩
    | succ g =>
      have hi : i < B.size := by omega
      have hx128 := hall.out i hi
      have hnx := fun ty => run_next_ascii (P := Tryz.prog) w B i ty hi hx128
      obtain ⟨x, hx⟩ : ∃ x : UInt8, B[i]'hi = x := ⟨_, rfl⟩
      rw [hx] at hnx hx128
      clear hx
      have d : ((x.toNat : Int) == 65533) = false := by simp; omega
      go_wp2
      go_roundg g
      case measure => omega
      case rel => exact ⟨i + 1, by omega, rfl⟩

theorem indexRune_high (r : Int) (h : 128 ≤ r) (hv : Utf8.valid r = true) (w : World) :
    Calls Tryz.prog 120 #[.string ⟨#[32, 9]⟩, .int .i32 r] w fun e w' => e = .returned (.int .i64 (-1)) ∧ Below w.heap.size w w' := by
  by_cases h3 : r = 65533
  · subst h3; exact indexRune_bad w
  · exact indexRune_two r h hv h3 w
theorem indexRune_low (r : Nat) (h : r < 128) (w : World) :
    Calls Tryz.prog 120 #[.string ⟨#[32, 9]⟩, .int .i32 r] w fun e w' => e = .returned (.int .i64 (Lib.indexByte blanks r.toUInt8)) ∧ w' = w :=
  Any.strings_IndexRune_ascii { Tryz.lays160 with } ⟨#[32, 9]⟩ r w (by omega) (by omega)
theorem should_calls (n : Int) (w : World) : Calls Tryz.prog 121 #[.int .i64 n] w fun e w' => e = .returned (.bool (decide (8 < n))) ∧ w' = w := by
  go_enter Tryz.func121, Tryz.ntmps121
  go_wp2
  go_ret
  exact ⟨rfl, rfl⟩

set_option maxHeartbeats 4000000 in
set_option maxRecDepth 100000 in
theorem indexAny_short (l : Bs) (h8 : l.length ≤ 8) (w : World) :
    Calls Tryz.prog 91 #[S l, .string ⟨#[32, 9]⟩] w fun e w' => e = .returned (.int .i64 (Lib.indexAny l blanks)) ∧ Below w.heap.size w w' := by
  obtain ⟨s, hs⟩ : ∃ s : ByteArray, (⟨l.toArray⟩ : ByteArray) = s := ⟨_, rfl⟩
  have hd : s.data.toList = l := by rw [← hs]
  have hsz : s.size = l.length := by rw [← hs]; rfl
  unfold S
  rw [hs]
  have h8z : decide ((8 : Int) < (s.size : Int)) = false := decide_eq_false (by omega)
  have HD := Lib.hid hd
  have HZ := Lib.hid hsz
  clear hs hd hsz
  have hsz8 : s.size ≤ 8 := by have := HZ.out; omega
  go_enter Tryz.func91, Tryz.ntmps91
  go_wp2_with (first | (go_at_call 121; refine (should_calls _ _).mono ?_; rintro e w' ⟨rfl, hw⟩; rw [hw, h8z]))
  go_loopg [9, 10] s.size (fun g _ _ wx => ∃ i : Nat, i ≤ s.size ∧ s.size ≤ i + g ∧ wx.heap[w.heap.size]? = some (.stringIter s i) ∧ Below w.heap.size w wx ∧ Lib.NoAny l blanks i)
  case atStart => exact ⟨0, Nat.zero_le _, by omega, World.iter_heap w s 0, (Below.refl _ _).alloc (Nat.le_refl _) _, Lib.NoAny.zero _ _⟩
  case round =>
    obtain ⟨i, hi1, hi2, hit, hbw, hno⟩ := hrel
    have HN := Lib.hid hno
    have HB := Lib.hid hbw
    have HI := Lib.hid hit
    clear hno hbw
    by_cases hi : i < s.size
    · obtain ⟨g, rfl⟩ : ∃ g, gk = g + 1 := ⟨gk - 1, by omega⟩
      obtain ⟨x, hx⟩ : ∃ x : UInt8, s[i]'hi = x := ⟨_, rfl⟩
      have hxl : Hid (l[i]? = some x) := by unfold Hid; rw [← HD.out, ← hx]; exact Lib.data_getElem? s i hi
      by_cases hlow : x.toNat < 128
      · have hnx := fun ty => Lib.run_next_ascii_at (P := Tryz.prog) wr w.heap.size s i ty hit hi (by rw [hx]; exact hlow)
        rw [hx] at hnx
        have hcon := Lib.contains_iff_indexByte blanks x
        have hback : x.toNat.toUInt8 = x := by simp
        clear hx
        have hz : wr.heap.size = (wr.iterAt w.heap.size s (i + 1)).heap.size := (Lib.iterAt_size _ _ _ _).symm
        have HZ2 := Lib.hid hz
        clear hz
        cases hin : blanks.contains x
        · rw [hin] at hcon
          have hlt : decide ((0 : Int) ≤ Lib.indexByte blanks x) = false := hcon.symm
          clear hcon
          go_wp2_with (first | (go_at_call 120; refine (indexRune_low _ hlow _).mono ?_; rintro e w' ⟨rfl, hw⟩; rw [hw, hback]))
          go_roundg g
          case measure => omega
          case rel => exact ⟨i + 1, hi, by omega, Lib.iterAt_heap wr w.heap.size s i (i + 1) HI.out, Lib.below_iterAt HB.out (k := w.heap.size) (Nat.le_refl _) s (i + 1), HN.out.succ hxl.out hin⟩
        · rw [hin] at hcon
          have hge : decide ((0 : Int) ≤ Lib.indexByte blanks x) = true := hcon.symm
          clear hcon
          go_wp2_with (first | (go_at_call 120; refine (indexRune_low _ hlow _).mono ?_; rintro e w' ⟨rfl, hw⟩; rw [hw, hback]))
          go_ret
          exact ⟨by rw [Lib.indexAny_hit HN.out hxl.out hin]; rfl, Lib.below_iterAt HB.out (k := w.heap.size) (Nat.le_refl _) s (i + 1)⟩
      · have hnx := fun ty => Lib.run_next_any_at (P := Tryz.prog) wr w.heap.size s i ty hit hi
        have hhi := decode_high s i hi (by rw [hx]; omega)
        have hv := decode_valid s i
        have hby := decode_bytes s i hi (by rw [hx]; omega)
        obtain ⟨r, hr⟩ : ∃ r, (Utf8.decode s i).1 = r := ⟨_, rfl⟩
        obtain ⟨wd, hwd⟩ : ∃ wd, (Utf8.decode s i).2 = wd := ⟨_, rfl⟩
        rw [hr] at hnx hhi hv
        rw [hwd] at hnx hhi hby
        have hge : i + wd ≤ s.size := by have := (hby (wd - 1) (by omega)).1; omega
        have HBY := Lib.hid hby
        clear hby hr hwd hx
        have hrh : (128 : Int) ≤ (r : Int) := by omega
        go_wp2_with (first | (go_at_call 120; refine (indexRune_high r hrh hv _).mono ?_; rintro e w' ⟨rfl, hw⟩))
        go_roundg g
        case measure => omega
        case rel =>
          have hz : wr.heap.size = (wr.iterAt w.heap.size s (i + wd)).heap.size := (Lib.iterAt_size _ _ _ _).symm
          have hlt : w.heap.size < wr.heap.size := (Array.getElem?_eq_some_iff.1 HI.out).1
          refine ⟨i + wd, hge, by omega, (hw.block _ (by omega)).trans (Lib.iterAt_heap wr w.heap.size s i (i + wd) HI.out), ?_, ?_⟩
          · exact (Lib.below_iterAt HB.out (k := w.heap.size) (Nat.le_refl _) s (i + wd)).trans (hw.mono (by omega))
          · intro j b hj hb
            by_cases hji : j < i
            · exact HN.out j b hji hb
            · have hb2 := (HBY.out (j - i) (by omega))
              rw [show i + (j - i) = j by omega] at hb2
              have hbe : s.get! j = b := by
                have := Lib.data_getElem? s j hb2.1
                rw [HD.out, hb] at this
                have e2 : s.get! j = s[j]'hb2.1 := by have := get_at s j hb2.1; simpa using this
                rw [e2]
                exact (Option.some.inj this).symm
              rw [hbe] at hb2
              unfold blanks
              simp only [List.contains_cons, List.contains_nil, Bool.or_false, Bool.or_eq_false_iff, beq_eq_false_iff_ne]
              exact ⟨fun e => by subst e; exact absurd hb2.2 (by decide), fun e => by subst e; exact absurd hb2.2 (by decide)⟩
    · obtain rfl : i = s.size := by omega
      have hnx : ∀ ty, (Instr.next (.pointer (some ⟨w.heap.size, 0, none⟩)) true ty).run Tryz.prog wr = _ := fun ty => Lib.run_next_end_at wr w.heap.size s s.size ty hit (by omega)
      go_wp2
      go_ret
      exact ⟨by rw [Lib.indexAny_none (by rw [← HZ.out]; exact HN.out)]; rfl, HB.out⟩

theorem blanks_ascii : ∀ (j : Nat) b, (⟨#[32, 9]⟩ : ByteArray).data.toList[j]? = some b → b.toNat < 128 := ascii_of_all (by decide)
theorem indexAny_calls (l : Bs) (hs : l.length < 4294967281) (w : World) :
    Calls Tryz.prog 91 #[S l, .string ⟨#[32, 9]⟩] w fun e w' => e = .returned (.int .i64 (Lib.indexAny l blanks)) ∧ Below w.heap.size w w' := by
  by_cases h8 : l.length ≤ 8
  · exact indexAny_short l h8 w
  · have hin : (Tryz.prog.info? (Tryz.lays153_ren.t 116)).map (fun i => (i.zero, i.size)) = some (some (.agg (Array.replicate 256 (.bool false))), 256) := by kernel_rfl
    refine (Any.strings_IndexAny_long Tryz.lays153 (zero_of_info hin).1 (zero_of_info hin).2 ⟨l.toArray⟩ ⟨#[32, 9]⟩ w (by decide) (by show 8 < l.length; omega) (by show l.length < _; omega) (by decide) blanks_ascii).mono fun e w' ⟨h1, h2⟩ => ⟨h1, ?_⟩
    rw [h2]
    exact ((Below.refl _ _).alloc (Nat.le_refl _) _).alloc (by simp) _
end Go.Proofs.YtapanjfheddfnaaGreatDoor
