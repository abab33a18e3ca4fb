/- The builders of the session: what they hold, and the contracts of WriteString, Len, String with a frame that names the builder's two blocks. -/
import Derived.Test.YtapanjfheddfnaaGreatDoorRow
import Derived.Test.YtapanjfheddfnaaGreatDoorShelf
import Derived.Lib.FrozenHead
import Derived.Lib.AppendZeros
import Derived.Shelf.Strings.Builder1
namespace Go.Proofs.YtapanjfheddfnaaGreatDoor
open Go.RowKit Go.Shelf
attribute [local go_sem high] ext_to ext_from
attribute [local go_sem] ext_list app_list size_list

/-- The bytes of a builder: its buffer begins at a row's head; what String() has frozen lies within the bytes. -/
def RowB (W : World) (v : Value) (l : Bs) : Prop :=
  (v = .slice none 0 0 ∧ l = []) ∨ (l ≠ [] ∧ ∃ g cap cur fz, v = .slice (some ⟨g, 0, none⟩) l.length cap ∧ 8 ≤ g ∧ W.heap[g]? = some (.cells cur 5 fz) ∧ fz.2 ≤ l.length ∧ l.length ≤ cap ∧ cap ≤ maxLen ∧ cap ≤ cur.size ∧ cur.toList.take l.length = bytesV l)
def BuiltAt (W : World) (bb : Nat) (v : Value) (l : Bs) : Prop :=
  8 ≤ bb ∧ (∃ p, (p = .pointer none ∨ p = .pointer (some ⟨bb, 0, none⟩)) ∧ W.heap[bb]? = some (.cells #[p, v] 69 (0, 0))) ∧ RowB W v l

theorem RowB.slice {W : World} {v : Value} {l : Bs} (h : RowB W v l) : ∃ a c, v = .slice a l.length c := by
  rcases h with ⟨rfl, rfl⟩ | ⟨_, g, cap, cur, fz, rfl, _⟩
  · exact ⟨none, 0, rfl⟩
  · exact ⟨_, cap, rfl⟩
theorem RowB.kind {W : World} {v : Value} {l : Bs} (h : RowB W v l) : ∀ k, v.ownBlock = some k → 8 ≤ k ∧ ∃ cur fz, W.heap[k]? = some (.cells cur 5 fz) := by
  intro k hk
  rcases h with ⟨rfl, rfl⟩ | ⟨_, g, cap, cur, fz, rfl, h8, hg, _⟩
  · simp [Value.ownBlock] at hk
  · simp [Value.ownBlock] at hk; subst hk; exact ⟨h8, cur, fz, hg⟩
theorem RowB.lt {W : World} {v : Value} {l : Bs} (h : RowB W v l) : ∀ k, v.ownBlock = some k → 8 ≤ k ∧ k < W.heap.size := by
  intro k hk
  obtain ⟨h8, cur, fz, hg⟩ := h.kind k hk
  exact ⟨h8, (Array.getElem?_eq_some_iff.1 hg).1⟩
theorem RowB.heap {W W' : World} {v : Value} {l : Bs} (h : RowB W v l) (hk : ∀ k, v.ownBlock = some k → W'.heap[k]? = W.heap[k]?) : RowB W' v l := by
  rcases h with ⟨rfl, rfl⟩ | ⟨h0, g, cap, cur, fz, rfl, h8, hg, rest⟩
  · exact .inl ⟨rfl, rfl⟩
  · exact .inr ⟨h0, g, cap, cur, fz, rfl, h8, (hk g rfl).trans hg, rest⟩
theorem BuiltAt.heap {W W' : World} {bb : Nat} {v : Value} {l : Bs} (h : BuiltAt W bb v l) (hb : W'.heap[bb]? = W.heap[bb]?) (hk : ∀ k, v.ownBlock = some k → W'.heap[k]? = W.heap[k]?) : BuiltAt W' bb v l := by
  obtain ⟨h8, ⟨p, hp, hbk⟩, hr⟩ := h
  exact ⟨h8, ⟨p, hp, hb.trans hbk⟩, hr.heap hk⟩
theorem BuiltAt.lt {W : World} {bb : Nat} {v : Value} {l : Bs} (h : BuiltAt W bb v l) : bb < W.heap.size := by
  obtain ⟨h8, ⟨p, hp, hbk⟩, hr⟩ := h
  exact (Array.getElem?_eq_some_iff.1 hbk).1
theorem BuiltAt.kept {S : Nat → Prop} {W W' : World} {bb : Nat} {v : Value} {l : Bs} (h : BuiltAt W bb v l) (hk : Kept S W W') (hb : ¬ S bb) (hr : ∀ k, v.ownBlock = some k → ¬ S k) : BuiltAt W' bb v l :=
  h.heap (hk.block _ h.lt hb) fun k hv => hk.block k (h.2.2.lt k hv).2 (hr k hv)
/-- Builder and row are two blocks. -/
theorem BuiltAt.ne {W : World} {bb : Nat} {v : Value} {l : Bs} (h : BuiltAt W bb v l) : ∀ k, v.ownBlock = some k → k ≠ bb := by
  rintro k hk rfl
  obtain ⟨h8, ⟨p, hp, hbk⟩, hr⟩ := h
  obtain ⟨_, cur, fz, hc⟩ := hr.kind k hk
  rw [hbk] at hc; simp at hc
theorem BuiltAt.fresh (W : World) (h8 : 8 ≤ W.heap.size) : BuiltAt (W.alloc (.cells #[.pointer none, .slice none 0 0] 69)) W.heap.size (.slice none 0 0) [] :=
  ⟨h8, ⟨_, .inl rfl, heap_alloc_new _ _⟩, .inl ⟨rfl, rfl⟩⟩

set_option maxRecDepth 100000 in
theorem RowB.append {w : World} {v : Value} {l : Bs} (h : RowB w v l) (h8 : 8 ≤ w.heap.size) (s : Bs) (hlen : l.length + s.length ≤ 140737488355328) :
    ∃ v' w', (Builtin.append_ #[67, 9] 67 #[v, S s]).run Tryz.prog w = .ok v' w' ∧ RowB w' v' (l ++ s) ∧ w.grownBy w' v.ownBlock ∧ (∀ k, v'.ownBlock = some k → v.ownBlock = some k ∨ w.heap.size ≤ k) := by
  have hxl : (bytesV l).length = l.length := by simp [bytesV]
  have hbs : bytesV (l ++ s) = bytesV l ++ bytesV s := by simp [bytesV]
  have grow : ∀ (base : Option Addr) (cap : Nat), v = .slice base l.length cap → ((Builtin.firstCells Tryz.t5.size l.length (.slice base l.length cap)).run Tryz.prog w.drew = .ok (bytesV l).toArray w.drew) → cap < l.length + s.length →
      ∃ v' w', (Builtin.append_ #[67, 9] 67 #[v, S s]).run Tryz.prog w = .ok v' w' ∧ RowB w' v' (l ++ s) ∧ w.grownBy w' v.ownBlock ∧ (∀ k, v'.ownBlock = some k → v.ownBlock = some k ∨ w.heap.size ≤ k) := by
    intro base cap hv hold hg
    have hr := run_append_grow_src (P := Tryz.prog) w 67 9 67 5 _ _ Tryz.underlying67 (by rfl) (by rfl) base l.length cap (bytesV l) hold (S s) s.length (bytesV s) (src_S (P := Tryz.prog) w Tryz.underlying9 s) hg (by omega) (growslice_fits hg (by show _ * 1 ≤ _; omega))
    have hge := grownCap_ge w (l.length + s.length) cap 5
    have hcm := grownCap_le_maxLen w (l.length + s.length) cap 5 (by unfold maxLen; omega)
    rw [hv]
    refine ⟨_, _, hr, .inr ⟨?_, w.heap.size, _, _, (0, 0), by rw [List.length_append], h8, heap_alloc_new w.drew _, Nat.zero_le _, ?_, hcm, ?_, ?_⟩, ⟨rfl, rfl, rfl, by simp, fun k hk _ => Below.heap_alloc w.drew _ k hk⟩, fun k hk => ?_⟩
    · intro e; have := congrArg List.length e; rw [List.length_append, List.length_nil] at this; omega
    · rw [List.length_append]; exact hge
    · have hz1 : (Value.int IntKind.u8 0).cells.size = 1 := rfl
      simp only [Array.size_append, List.size_toArray, size_zeroCells, hz1, bytesV, List.length_append, List.length_map]; simp only [Nat.mul_one]; omega
    · simp only [Array.toList_append]
      rw [hbs]
      have : (l ++ s).length = (bytesV l ++ bytesV s).length := by simp [bytesV]
      rw [this]
      exact List.take_left
    · simp [Value.ownBlock] at hk; subst hk; exact .inr (Nat.le_refl _)
  rcases h with ⟨rfl, rfl⟩ | ⟨h0, g, cap, cur, fz, rfl, hg8, hg, hfz, hnc, hcm, hcs, htake⟩
  · by_cases hm : s = []
    · subst hm
      refine ⟨.slice none 0 0, w, ?_, .inl ⟨rfl, rfl⟩, ⟨rfl, rfl, rfl, Nat.le_refl _, fun _ _ _ => rfl⟩, fun k hk => .inl hk⟩
      have hs := src_S (P := Tryz.prog) w Tryz.underlying9 []
      simp [Builtin.append_, run_underlying Tryz.underlying67, run_underlying Tryz.underlying9, sizeOf, typeInfo, hs.len, show Tryz.prog.info? 5 = some Tryz.t5 from rfl, show Tryz.t5.size = 1 from rfl, show (Builtin.firstCells 1 0 (S [])).run Tryz.prog w = _ from hs.cells]
    · exact grow none 0 rfl (run_firstCells_none w.drew _ 0 0 0) (by have := List.length_pos_iff.2 hm; simp; omega)
  · by_cases hroom : l.length + s.length ≤ cap
    · have hr := Lib.run_append_room_stringF (P := Tryz.prog) w 67 9 67 5 _ Tryz.underlying67 Tryz.underlying9 (by rfl) (by rfl) g l.length cap cur fz hg hfz ⟨s.toArray⟩ hroom (by show l.length + s.length ≤ _; omega)
      refine ⟨_, _, hr, .inr ⟨by simp [h0], g, cap, _, fz, by rw [List.length_append]; rfl, hg8, setRow_heap w g cur _ 5 _ hg, by rw [List.length_append]; omega, by rw [List.length_append]; omega, hcm, ?_, ?_⟩, ⟨rfl, rfl, rfl, by simp, fun k hk hk2 => setRow_other w g k _ (fun e => hk2 (by simp [Value.ownBlock, e]))⟩, fun k hk => .inl hk⟩
      · simp only [List.size_toArray, List.length_append, List.length_take, List.length_drop, Array.length_toList, Lib.strCells_length]
        show cap ≤ min l.length cur.size + s.length + (cur.size - (l.length + s.length))
        omega
      · rw [htake, hbs]
        have : (l ++ s).length = (bytesV l ++ bytesV s).length := by simp [bytesV]
        rw [this]
        exact List.take_left
    · refine grow (some ⟨g, 0, none⟩) cap rfl ?_ (by omega)
      refine run_firstCells_some w.drew 1 l.length ⟨g, 0, none⟩ l.length cap (bytesV l) (by simp [bytesV]) (fun j u hj => ?_)
      rw [Addr.add_lit]
      show w.cell? _ = _
      rw [← htake] at hj
      simp only [World.cell?, hg]
      have hlt : j < l.length := by
        rcases Nat.lt_or_ge j l.length with q | q
        · exact q
        · rw [List.getElem?_take, if_neg (by omega)] at hj; cases hj
      rw [List.getElem?_take_of_lt hlt] at hj
      simpa using hj

/-! ### The contracts -/
theorem x230 : Builder.X72 Tryz.prog Tryz.lays230_ren := { sizeBuilder := by kernel_rfl, liesBuilder := by kernel_rfl }
set_option maxRecDepth 100000 in
theorem check_calls (w : World) (bb : Nat) (v : Value) (l : Bs) (h : BuiltAt w bb v l) :
    Calls Tryz.prog 56 #[.pointer (some ⟨bb, 0, none⟩)] w fun e w' => e = .returned (.tuple #[]) ∧ BuiltAt w' bb v l ∧ Kept (fun k => k = bb) w w' ∧ w'.heap[bb]? = some (.cells #[.pointer (some ⟨bb, 0, none⟩), v] 69 (0, 0)) := by
  obtain ⟨h8, ⟨p, hp, hbk⟩, hr⟩ := h
  have hne : ∀ k, v.ownBlock = some k → k ≠ bb := BuiltAt.ne ⟨h8, ⟨p, hp, hbk⟩, hr⟩
  have c0 : w.cell? ⟨bb, 0, none⟩ = some p := by simp [World.cell?, hbk]
  rcases hp with rfl | rfl
  · refine (Any.Builder_copyCheck_fresh Tryz.lays240 x230 bb w c0 (by simp [World.shape?, hbk]; rfl) (by simp [World.frozen?, hbk])).mono ?_
    rintro e w' ⟨rfl, rfl⟩
    have hb' := (heap_set (i := 0) hbk (.pointer (some ⟨bb, 0, none⟩))).trans (rfl : _ = some (Obj.cells #[.pointer (some ⟨bb, 0, none⟩), v] 69 (0, 0)))
    exact ⟨rfl, ⟨h8, ⟨_, .inr rfl, hb'⟩, hr.heap fun k hk => Below.heap_setCell _ _ _ _ (hne k hk)⟩, Kept.setCell (S := fun k => k = bb) (Kept.refl _ w) (.inl rfl) _, hb'⟩
  · refine (Any.Builder_copyCheck_used Tryz.lays240 x230 bb w c0).mono ?_
    rintro e w' ⟨rfl, rfl⟩
    exact ⟨rfl, ⟨h8, ⟨_, .inr rfl, hbk⟩, hr⟩, Kept.refl _ _, hbk⟩

set_option maxRecDepth 100000 in
theorem write_calls (w : World) (bb : Nat) (v : Value) (l s : Bs) (h : BuiltAt w bb v l) (hlen : l.length + s.length ≤ 140737488355328) :
    Calls Tryz.prog 36 #[.pointer (some ⟨bb, 0, none⟩), S s] w fun e w' => e = .returned (.tuple #[.int .i64 s.length, .nilIface]) ∧ ∃ v', BuiltAt w' bb v' (l ++ s) ∧ Kept (fun k => k = bb ∨ v.ownBlock = some k) w w' ∧ (∀ k, v'.ownBlock = some k → v.ownBlock = some k ∨ w.heap.size ≤ k) := by
  have h8 := h.1
  have HC := Lib.hid h
  go_enter Tryz.func36, Tryz.ntmps36
  go_wp2_with fail
  refine (check_calls w bb v l HC.out).mono ?_
  rintro e w1 ⟨rfl, h1, hk1, hbk⟩
  have HH := Lib.hid h1
  have hlt1 : bb < w1.heap.size := h1.lt
  obtain ⟨v', w2, happ, hr2, hg2, hv2⟩ := h1.2.2.append (by omega) s hlen
  obtain ⟨a', c', rfl⟩ := hr2.slice
  rw [List.length_append] at happ hr2 hv2
  have c1 : w1.cell? ⟨bb, 1, none⟩ = some v := by simp [World.cell?, hbk]
  have hbk2 : w2.heap[bb]? = _ := (hg2.block bb hlt1 (fun e => h1.ne bb e.symm rfl)).trans hbk
  have c2 : w2.cell? ⟨bb, 1, none⟩ = some v := by simp [World.cell?, hbk2]
  have c3 : w2.frozen? ⟨bb, 1, none⟩ = false := by simp [World.frozen?, hbk2]
  go_wp2_with (at_builtin; refine Lib.wpList_append_run _ rfl _ _ 67 9 rfl _ _ rfl rfl _ _ happ ?_)
  go_wp2
  go_ret2
  refine ⟨rfl, _, ⟨h8, ⟨_, .inr rfl, (heap_set (i := 1) hbk2 _).trans rfl⟩, hr2.heap fun k hk => Below.heap_setCell _ _ _ _ ?_⟩, ?_, ?_⟩
  · rintro rfl
    obtain ⟨_, cur, fz, hc⟩ := hr2.kind _ hk
    rw [hbk2] at hc; simp at hc
  · exact ((hk1.mono fun k h => .inl (.inl h)).grown hg2 (fun k e => .inl (.inr e))).setCell (.inl (.inl rfl)) _
  · intro k hk
    exact (hv2 k hk).imp id (fun q => by have := hk1.size; omega)

theorem len_calls (w : World) (bb : Nat) (v : Value) (l : Bs) (h : BuiltAt w bb v l) :
    Calls Tryz.prog 58 #[.pointer (some ⟨bb, 0, none⟩)] w fun e w' => e = .returned (.int .i64 l.length) ∧ w' = w := by
  obtain ⟨h8, ⟨p, hp, hbk⟩, hr⟩ := h
  obtain ⟨a, c, rfl⟩ := hr.slice
  have c1 : w.cell? ⟨bb, 1, none⟩ = some (.slice a l.length c) := by simp [World.cell?, hbk]
  go_enter Tryz.func58, Tryz.ntmps58
  go_wp2
  go_ret
  exact ⟨rfl, rfl⟩

theorem freeze_heap {w : World} {g : Nat} {cur : Array Value} {fz : Nat × Nat} (hg : w.heap[g]? = some (.cells cur 5 fz)) (n : Nat) (h : fz.2 ≤ n) : ∃ fz', (w.freeze ⟨g, 0, none⟩ n).heap[g]? = some (.cells cur 5 fz') ∧ fz'.2 ≤ n := by
  unfold World.freeze
  split
  · exact ⟨fz, hg, h⟩
  · obtain ⟨lo, hi⟩ := fz
    simp only [Array.getElem?_modify, hg]
    refine ⟨_, rfl, ?_⟩
    have h' : hi ≤ n := h
    split <;> simp <;> omega
theorem freeze_other (w : World) (g n k : Nat) (h : k ≠ g) : (w.freeze ⟨g, 0, none⟩ n).heap[k]? = w.heap[k]? := by
  unfold World.freeze
  split
  · rfl
  · simp only [Array.getElem?_modify]
    rw [if_neg (fun e => h e.symm)]
theorem freeze_kept {S : Nat → Prop} (w : World) (g n : Nat) (hS : S g) : Kept S w (w.freeze ⟨g, 0, none⟩ n) := by
  refine ⟨?_, ?_, ?_, ?_, fun k hk hn => freeze_other w g n k (fun e => hn (e ▸ hS))⟩ <;> (unfold World.freeze; split) <;> simp

set_option maxHeartbeats 2000000 in
set_option maxRecDepth 100000 in
theorem string_calls (w : World) (bb : Nat) (v : Value) (l : Bs) (h : BuiltAt w bb v l) :
    Calls Tryz.prog 39 #[.pointer (some ⟨bb, 0, none⟩)] w fun e w' => e = .returned (S l) ∧ BuiltAt w' bb v l ∧ Kept (fun k => v.ownBlock = some k) w w' := by
  obtain ⟨h8, ⟨p, hp, hbk⟩, hr⟩ := h
  have hne : ∀ k, v.ownBlock = some k → k ≠ bb := BuiltAt.ne ⟨h8, ⟨p, hp, hbk⟩, hr⟩
  have HR := Lib.hid hr
  rcases hr with ⟨rfl, rfl⟩ | ⟨h0, g, cap, cur, fz, rfl, h8g, hg, hfz, hnc, hcm, hcs, htake⟩
  · have hUS : (Builtin.unsafeString_ #[95, 3] 9 #[.pointer none, .int .i64 0]).run Tryz.prog w.drew = .ok (.string .empty) w.drew := Any.unsafeString_none Tryz.lays169 Tryz.Builder_Extra_169 w.drew none
    have c1 : w.drew.cell? ⟨bb, 1, none⟩ = some (.slice none 0 0) := by
      show w.cell? _ = _
      simp [World.cell?, hbk]
    have hSD : (Builtin.unsafeSliceData_ #[67] 95 #[.slice none 0 0]).run Tryz.prog w.drew = .ok (.pointer none) w.drew := rfl
    have mixed : Tryz.prog.follows .mixedOrders = true := by kernel_rfl
    go_enter Tryz.func39, Tryz.ntmps39
    go_wp2
    go_region_o
    all_goals (go_wp2; go_ret; exact ⟨rfl, ⟨h8, ⟨p, hp, hbk⟩, HR.out⟩, (Kept.refl _ w).drew⟩)
  · have hl0 : l.length ≠ 0 := by simpa using h0
    have c1 : w.drew.cell? ⟨bb, 1, none⟩ = some (.slice (some ⟨g, 0, none⟩) l.length cap) := by
      show w.cell? _ = _
      simp [World.cell?, hbk]
    have hSD : (Builtin.unsafeSliceData_ #[67] 95 #[.slice (some ⟨g, 0, none⟩) l.length cap]).run Tryz.prog w.drew = .ok (.pointer (some ⟨g, 0, none⟩)) w.drew :=
      Lib.run_unsafeSliceData_row _ _ _ _ _ _ (by omega)
    have hUS : (Builtin.unsafeString_ #[95, 3] 9 #[.pointer (some ⟨g, 0, none⟩), .int .i64 l.length]).run Tryz.prog w.drew = .ok (.string ⟨l.toArray⟩) (w.drew.freeze ⟨g, 0, none⟩ l.length) := by
      refine Lib.run_unsafeString_row w.drew 95 3 9 5 Tryz.underlying95 Tryz.Builder_Extra_169.cellsByte g cur.size (by have hg' : w.drew.heap[g]? = some (.cells cur 5 fz) := hg; simp [World.shape?, hg']) l h0 (by omega) (by unfold maxLen at hcm; omega) ?_
      intro j x hx
      rw [Addr.add_lit]
      show w.cell? _ = _
      have hj : j < l.length := (List.getElem?_eq_some_iff.1 hx).1
      have : (bytesV l)[j]? = some (.int .u8 x.toNat) := by simp [bytesV, hx]
      rw [← htake, List.getElem?_take_of_lt hj] at this
      simpa [World.cell?, hg] using this
    have hkeep : BuiltAt (w.drew.freeze ⟨g, 0, none⟩ l.length) bb (.slice (some ⟨g, 0, none⟩) l.length cap) l := by
      obtain ⟨fz', hf1, hf2⟩ := freeze_heap (w := w.drew) hg l.length hfz
      exact ⟨h8, ⟨p, hp, (freeze_other w.drew g l.length bb (fun e => hne g rfl e.symm)).trans hbk⟩, .inr ⟨h0, g, cap, cur, fz', rfl, h8g, hf1, hf2, hnc, hcm, hcs, htake⟩⟩
    have mixed : Tryz.prog.follows .mixedOrders = true := by kernel_rfl
    go_enter Tryz.func39, Tryz.ntmps39
    go_wp2
    go_region_o
    all_goals (go_wp2; go_ret; exact ⟨rfl, hkeep, ((Kept.refl _ w).drew).trans (freeze_kept _ _ _ rfl)⟩)
end Go.Proofs.YtapanjfheddfnaaGreatDoor
