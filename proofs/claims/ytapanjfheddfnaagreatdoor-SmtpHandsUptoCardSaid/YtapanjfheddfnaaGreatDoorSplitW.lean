/- lines.Split: slices.Collect over lines.all. -/
import Derived.Test.YtapanjfheddfnaaGreatDoorPush
import Derived.OwnWalkIn
namespace Go.Proofs.YtapanjfheddfnaaGreatDoor
open Go.RowKit Go.Shelf
attribute [local go_sem] Oper.semAt_some
attribute [local go_sem high] ext_to ext_from
attribute [local go_sem] ext_list app_list size_list

/-- Between two lines: the collected slice in its box. -/
def AppI (Bx : Nat) (w : World) (pre : List Bs) (W : World) : Prop :=
  ∃ v, W.heap[w.heap.size]? = some (.cells #[v] 22 (0, 0)) ∧ W.ownsRow (w.heap.size + 1) 9 1 v pre.length (strsV pre) ∧ Kept (fun k => k = Bx) w W ∧ w.heap.size < W.heap.size
theorem owns_heap {w w' : World} {base : Nat} {e : TypeId} {v : Value} {n : Nat} {xs : List Value} (h : w.ownsRow base e 1 v n xs) (hk : ∀ k c f, v.ownBlock = some k → w.heap[k]? = some (.cells c e f) → w'.heap[k]? = w.heap[k]?) : w'.ownsRow base e 1 v n xs := by
  refine ⟨h.1, ?_⟩
  rcases h.2 with q | ⟨g, cap, cur, hv, hb, hg, rest⟩
  · exact .inl q
  · exact .inr ⟨g, cap, cur, hv, hb, (hk g cur _ (by rw [hv]; rfl) hg).trans hg, rest⟩
theorem AppI.step {Bx : Nat} {w : World} (hBx : Bx < w.heap.size) (t : List Bs) (A B : World) (row : Option Nat) (h : AppI Bx w t A) (hg : A.grownBy B row)
    (hr : ∀ r, row = some r → r = Bx ∨ (w.heap.size + 1 ≤ r ∧ ∃ o : Obj, A.heap[r]? = some o ∧ o.isCells = false)) : AppI Bx w t B := by
  obtain ⟨v, h1, h2, h3, h4⟩ := h
  have keep : ∀ k c ty f, A.heap[k]? = some (.cells c ty f) → k ≠ Bx → B.heap[k]? = A.heap[k]? := by
    intro k c ty f hk hne
    refine hg.block k (Array.getElem?_eq_some_iff.1 hk).1 (fun e => ?_)
    rcases hr k e.symm with hq | ⟨_, o, ho, hc⟩
    · exact hne hq
    · rw [hk] at ho; cases ho; cases hc
  refine ⟨v, (keep _ _ _ _ h1 (by omega)).trans h1, owns_heap h2 fun k c f e hk => keep _ _ _ _ hk ?_, h3.grown hg (fun k e => ?_), Nat.lt_of_lt_of_le h4 hg.size⟩
  · rcases h2.2 with ⟨q, _⟩ | ⟨g, cap, cur, hv, hb, _⟩
    · rw [q] at e; cases e
    · rw [hv] at e; cases e; show g ≠ Bx; omega
  · rcases hr k e with q | ⟨q, _⟩
    · exact .inl q
    · exact .inr (by omega)

set_option maxRecDepth 100000 in
set_option maxHeartbeats 4000000 in
theorem appendSeq_calls (s : Bs) (hs : s.length < 4294967281) (w : World) (G : Glob w) (Bx : Nat) (h8 : 8 ≤ Bx) (hb : Boxed w Bx 9 (S s)) :
    Calls Tryz.prog 80 #[.slice none 0 0, .func (.func 81) #[] #[.pointer (some ⟨Bx, 0, none⟩)]] w fun e w' => ∃ ov, e = .returned ov ∧ w'.ownsRow (w.heap.size + 1) 9 1 ov (linesL s).length (strsV (linesL s)) ∧ Kept (fun k => k = Bx) w w' := by
  have hBx : Bx < w.heap.size := hb.lt
  have hinf : (Tryz.prog.info? 9).map (fun i => (i.zero, i.size, i.bytes)) = some (some (.string ⟨#[]⟩), 1, 16) := by kernel_rfl
  obtain ⟨inf, hi, hz, hs1, hby⟩ := info_parts hinf
  refine callsIn_wide (n := 3).1 ?_
  refine callsIn_of_wp_marks Tryz.func80 rfl trivial ?_ rfl
  simp only [Tryz.ntmps80, List.size_toArray, List.length_cons, List.length_nil, Nat.reduceAdd, Nat.reduceSub, Array.replicate_succ, Array.replicate_zero, List.push_toArray, List.append_toArray, List.nil_append, List.cons_append]
  gi_wp2_with fail
  obtain ⟨W0, hW0⟩ : ∃ W0, w.alloc (Obj.cells #[Value.slice none 0 0] 22) = W0 := ⟨_, rfl⟩
  have hsz : W0.heap.size = w.heap.size + 1 := by rw [← hW0]; simp
  have hk0 : Below w.heap.size w W0 := by rw [← hW0]; exact (Below.refl _ w).alloc (Nat.le_refl _) _
  have hb0 : W0.heap[w.heap.size]? = some (.cells #[.slice none 0 0] 22 (0, 0)) := by rw [← hW0]; exact heap_alloc_new _ _
  have hbx : Boxed W0 Bx 9 (S s) := (hk0.block Bx hBx).trans hb
  have G0 : Glob W0 := G.below' hk0
  have hI0 : AppI Bx w [] W0 := ⟨_, hb0, World.ownsRow_nil W0 _ 9 1, Kept.of_below hk0, by omega⟩
  rw [hW0]
  refine wpIn_range81 (Bx := Bx) (s := s) (by decide) (by go_simp) (by omega) (by omega) (iter81 Bx s hs W0 G0 h8 hbx)
    (AppI Bx w) (fun t A B row h hg hr' => AppI.step hBx t A B row h hg (fun r e => by rw [← hsz]; exact hr' r e)) hI0
    (fun x => { tmps := #[Value.slice none 0 0, Value.func (Fn.func 81) #[] #[Value.pointer (some { block := Bx, off := 0 })], Value.pointer (some { block := w.heap.size, off := 0 }), undef, Value.slice none 0 0, S x,
      Value.func (Fn.func 81) #[] #[Value.pointer (some { block := Bx, off := 0 })], S x, undef, undef, undef, undef, undef], defers := [] }) ?_ ?_ ?_
  · intro l x W K hK
    gi_wp2
    exact hK
  · intro l pre x W hI hpre hD hL
    obtain ⟨v, h1, h2, h3, h4⟩ := hI
    have hpl : pre.length + 1 ≤ s.length := by
      have e2 := hpre.length_le
      have e3 := linesL_len s
      simp at e2
      omega
    have hv : ∀ k, v.ownBlock = some k → w.heap.size + 1 ≤ k ∧ ∃ c, W.heap[k]? = some (.cells c 9 (0, 0)) := by
      intro k e
      rcases h2.2 with ⟨q, _⟩ | ⟨g, cap, cur, hv, hb, hg, _⟩
      · rw [q] at e; cases e
      · rw [hv] at e; cases e; exact ⟨hb, cur, hg⟩
    obtain ⟨W1, hW1⟩ : ∃ W1, W.alloc (.cells #[S x] 9) = W1 := ⟨_, rfl⟩
    have z1 : W1.heap.size = W.heap.size + 1 := by rw [← hW1]; simp
    have hb1 : Below W.heap.size W W1 := by rw [← hW1]; exact (Below.refl _ _).alloc (Nat.le_refl _) _
    have hn1 : W1.heap[W.heap.size]? = some (.cells #[S x] 9 (0, 0)) := by rw [← hW1]; exact heap_alloc_new _ _
    have hown1 : W1.ownsRow (w.heap.size + 1) 9 1 v pre.length (strsV pre) := owns_heap h2 fun k c f e hk => hb1.block k (Array.getElem?_eq_some_iff.1 hk).1
    have hcx : ∀ j u, ([S x] : List Value)[j]? = some u → W1.cell? ((⟨W.heap.size, 0, none⟩ : Addr).add j) = some u := by
      intro j u hj
      rw [Addr.add_lit, Nat.zero_add]
      simp only [World.cell?, hn1]
      simpa using hj
    have h1x : ∀ u ∈ ([S x] : List Value), u.oneCell' = true := by simp [Value.oneCell']
    have c2 : W.cell? ⟨w.heap.size, 0, none⟩ = some v := by simp [World.cell?, h1]
    have hb1' : pre.length + 1 ≤ maxLen := by simp only [maxLen]; omega
    have hb2' : (pre.length + 1) * 16 ≤ 140737488355328 := by omega
    have hb3' : w.heap.size + 1 ≤ W1.heap.size := by omega
    gi_wp2_with (first | (gi_at_builtin; refine wpListIn_append_own _ rfl _ _ 22 rfl (w.heap.size + 1) 9 inf _ 1 16 Tryz.underlying22 hi hz hs1 hby rfl (by omega) v pre.length (strsV pre) rfl hown1 ⟨W.heap.size, 0, none⟩ 1 1 [S x] rfl rfl hcx h1x hb1' hb2' hb3' ?_))
    intro v9 w2 ho2 hg2 _
    obtain ⟨a9, c9, rfl⟩ : ∃ a c, v9 = .slice a (pre.length + 1) c := by
      rcases ho2.2 with ⟨_, q⟩ | ⟨g, cap, cur, q, _⟩
      · omega
      · exact ⟨_, cap, q⟩
    have zg := hg2.size
    have h12 : w2.heap[w.heap.size]? = some (.cells #[v] 22 (0, 0)) := (hg2.block _ (by omega) (fun e => by have := (hv _ e.symm).1; omega)).trans ((hb1.block _ h4).trans h1)
    have f12 : w2.frozen? ⟨w.heap.size, 0, none⟩ = false := by simp [World.frozen?, h12]
    have c12 : w2.cell? ⟨w.heap.size, 0, none⟩ = some v := by simp [World.cell?, h12]
    gi_wp2_with fail
    obtain ⟨W', hW'⟩ : ∃ W', w2.setCell ⟨w.heap.size, 0, none⟩ (.slice a9 (pre.length + 1) c9) = W' := ⟨_, rfl⟩
    rw [hW']
    have hkW : Kept (fun k => k = w.heap.size ∨ v.ownBlock = some k) W W' := by
      rw [← hW']
      exact ((Kept.of_below hb1).grown hg2 (fun k e => .inl (.inr e))).setCell (.inl (.inl rfl)) _
    have hDlt := (Array.getElem?_eq_some_iff.1 hD).1
    have hno : ∀ (k : Nat) (o : Obj), W.heap[k]? = some o → o.isCells = false → ¬ (k = w.heap.size ∨ v.ownBlock = some k) := by
      rintro k o hk hc (rfl | e)
      · rw [h1] at hk; cases hk; cases hc
      · obtain ⟨_, c, hc'⟩ := hv k e
        rw [hc'] at hk; cases hk; cases hc
    refine ⟨hkW.block _ hDlt (hno _ _ hD rfl), ?_, ⟨hkW.below_of (by have := G.sz; omega) ?_, hkW.block _ (by omega) ?_⟩, ?_⟩
    · obtain ⟨r, hr⟩ := hL
      exact hkW.block _ (Array.getElem?_eq_some_iff.1 hr).1 (hno _ _ hr rfl)
    · rintro k (rfl | e)
      · exact G.sz
      · have := (hv k e).1; have := G.sz; omega
    · rintro (e | e)
      · omega
      · have := (hv _ e).1; omega
    · have es : strsV (pre ++ [x]) = strsV pre ++ [S x] := by simp [strsV]
      refine ⟨.slice a9 (pre.length + 1) c9, ?_, ?_, h3.trans' hkW (fun i q => ?_), Nat.lt_of_lt_of_le h4 hkW.size⟩
      · rw [← hW']; exact (heap_set h12 _).trans rfl
      · rw [es, List.length_append, List.length_singleton]
        refine owns_heap ho2 fun k c f e hk => ?_
        rw [← hW']
        refine Below.heap_setCell _ _ _ _ ?_
        rintro rfl
        rw [h12] at hk; simp at hk
      · rcases q with q | q
        · exact .inr (by omega)
        · exact .inr (by have := (hv i q).1; omega)
  · intro D W hD hI hK
    obtain ⟨v, h1, h2, h3, h4⟩ := hI
    have hq0 : W.cell? ⟨w.heap.size, 0, none⟩ = some v := by simp [World.cell?, h1]
    gi_wp2_with fail
    refine ⟨by simp, .inl ⟨_, _, rfl, run_takeDeferred hK, ?_⟩⟩
    have hWD : ∀ (k : Nat) (c : Array Value) (ty : TypeId) (f : Nat × Nat), W.heap[k]? = some (Obj.cells c ty f) → (W.putObj D (Obj.deferred none)).heap[k]? = W.heap[k]? := by
      intro k c ty f hk
      refine World.putObj_heap_other ?_
      rintro rfl
      rw [hK] at hk; cases hk
    refine ⟨_, results_tmp rfl _ _ _, v, rfl, owns_heap h2 fun k c f e hk => hWD _ _ _ _ hk, ?_⟩
    exact h3.grown (grownBy_putObj' _ D _) (fun k e => by cases e; exact .inr (by omega))

set_option maxRecDepth 100000 in
theorem collect_calls (s : Bs) (hs : s.length < 4294967281) (w : World) (G : Glob w) (Bx : Nat) (h8 : 8 ≤ Bx) (hb : Boxed w Bx 9 (S s)) :
    Calls Tryz.prog 46 #[.func (.func 81) #[] #[.pointer (some ⟨Bx, 0, none⟩)]] w fun e w' => ∃ ov, e = .returned ov ∧ w'.ownsRow (w.heap.size + 1) 9 1 ov (linesL s).length (strsV (linesL s)) ∧ Kept (fun k => k = Bx) w w' := by
  go_enter Tryz.func46, Tryz.ntmps46
  go_wp2_with fail
  refine (appendSeq_calls s hs w G Bx h8 hb).mono ?_
  rintro e w1 ⟨ov, rfl, ho, hk⟩
  have HO := Lib.hid (And.intro ho hk)
  clear ho hk
  go_wp2
  go_ret
  exact ⟨ov, rfl, HO.out.1, HO.out.2⟩
set_option maxRecDepth 100000 in
/-- lines.Split. -/
theorem split_calls (s : Bs) (hs : s.length < 4294967281) (w : World) (G : Glob w) :
    Calls Tryz.prog 25 #[S s] w fun e w' => ∃ ov, e = .returned ov ∧ w'.ownsRow (w.heap.size + 1) 9 1 ov (linesL s).length (strsV (linesL s)) ∧ Below w.heap.size w w' := by
  have hb := Boxed.new w 9 (S s)
  have G1 : Glob (w.alloc (.cells #[S s] 9)) := G.below' ((Below.refl _ w).alloc (Nat.le_refl _) _)
  go_enter Tryz.func25, Tryz.ntmps25
  go_wp2_with fail
  refine (all_calls s w).mono ?_
  rintro e w1 ⟨rfl, hw1⟩
  rw [hw1]
  clear hw1
  go_wp2_with fail
  refine (collect_calls s hs _ G1 w.heap.size G.sz hb).mono ?_
  rintro e w2 ⟨ov, rfl, ho, hk⟩
  have HO : Hid (w2.ownsRow (w.heap.size + 1) 9 1 ov (linesL s).length (strsV (linesL s)) ∧ Below w.heap.size w w2) := by
    refine ⟨?_, ?_⟩
    · obtain ⟨e1, e2⟩ := ho
      refine ⟨e1, e2.imp id ?_⟩
      rintro ⟨g, cap, cur, q1, q2, q3⟩
      rw [World.size_alloc] at q2
      exact ⟨g, cap, cur, q1, by omega, q3⟩
    · exact ((Below.refl _ w).alloc (Nat.le_refl _) _).trans (hk.below_of (by simp) (fun i e => by omega))
  clear ho hk
  go_wp2
  go_ret
  exact ⟨ov, rfl, HO.out.1, HO.out.2⟩
end Go.Proofs.YtapanjfheddfnaaGreatDoor
