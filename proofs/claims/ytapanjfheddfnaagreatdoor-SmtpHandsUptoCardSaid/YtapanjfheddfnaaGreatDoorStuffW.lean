/- lines.Stuff: mapLines over lines.all with a builder. -/
import Derived.Test.YtapanjfheddfnaaGreatDoorSplitW
import Derived.Test.YtapanjfheddfnaaGreatDoorBuilt
import Derived.Test.YtapanjfheddfnaaGreatDoorHandsP
namespace Go.Proofs.YtapanjfheddfnaaGreatDoor
open Go.RowKit Go.Shelf
attribute [local go_sem] Oper.semAt_some
attribute [local go_sem high] ext_to ext_from
attribute [local go_sem] ext_list app_list size_list

theorem lines_ne (s : Bs) : ∀ x ∈ linesL s, x ≠ [] := by
  refine linesL_ind (p := fun _ l => ∀ x ∈ l, x ≠ []) (by simp) (fun s h _ x hx => ?_) (fun s l _ ih x hx => ?_) s
  · obtain rfl : x = s := by simpa using hx
    exact h
  · rcases List.mem_cons.1 hx with rfl | hx
    · simp
    · exact ih x hx
theorem stuff_len : ∀ L : List Bs, (∀ x ∈ L, x ≠ []) → (L.map stuff1).flatten.length ≤ 2 * L.flatten.length
  | [], _ => by simp
  | x :: L, h => by
    have ih := stuff_len L (fun y hy => h y (by simp [hy]))
    have hx : (stuff1 x).length ≤ 2 * x.length := by
      have : x.length ≠ 0 := by simpa using h x (by simp)
      unfold stuff1
      split
      · simp; omega
      · omega
    simp only [List.map_cons, List.flatten_cons, List.length_append]
    omega
set_option maxRecDepth 100000 in
theorem stuff1_calls (x : Bs) (hx : x ≠ []) (hl : x.length ≤ 4294967281) (w : World) : Calls Tryz.prog 52 #[S x] w fun e w' => e = .returned (S (stuff1 x)) ∧ w' = w := by
  obtain ⟨c, t, rfl⟩ := List.exists_cons_of_ne_nil hx
  have h0 : (0 : Int) < ((c :: t).length : Int) := by simp
  have l0 : 0 < (⟨(c :: t).toArray⟩ : ByteArray).size := by show 0 < (c :: t).length; simp
  have hbd : ¬ 9223372036854775807 < 1 + (t.length + 1) := by simp at hl; omega
  by_cases hc : c = 46
  · subst hc
    have hs : stuff1 (46 :: t) = 46 :: 46 :: t := rfl
    rw [hs]
    have d : ((((⟨(46 :: t : Bs).toArray⟩ : ByteArray)[0]'l0).toNat : Int) == 46) = true := rfl
    clear hs
    go_enter Tryz.func52, Tryz.ntmps52
    go_wp2
    go_ret
    exact ⟨rfl, rfl⟩
  · have hs : stuff1 (c :: t) = c :: t := if_neg (by simpa using hc)
    rw [hs]
    have d : ((((⟨(c :: t : Bs).toArray⟩ : ByteArray)[0]'l0).toNat : Int) == 46) = false := by
      show ((c.toNat : Int) == 46) = false
      rw [beq_eq_false_iff_ne]
      intro e
      refine hc (UInt8.toNat_inj.1 ?_)
      show c.toNat = 46
      omega
    clear hs
    go_enter Tryz.func52, Tryz.ntmps52
    go_wp2
    go_ret
    exact ⟨rfl, rfl⟩

/-- Between two lines. -/
def MapI (w : World) (pre : List Bs) (W : World) : Prop :=
  ∃ v, W.heap[w.heap.size]? = some (.cells #[.func (.func 52) #[] #[]] 54 (0, 0)) ∧ BuiltAt W (w.heap.size + 1) v ((pre.map stuff1).flatten) ∧ (∀ k, v.ownBlock = some k → w.heap.size + 3 ≤ k) ∧ Kept NoBlk w W ∧ w.heap.size + 3 ≤ W.heap.size
theorem MapI.step {w : World} (t : List Bs) (A B : World) (row : Option Nat) (h : MapI w t A) (hg : A.grownBy B row)
    (hr : ∀ r, row = some r → r = w.heap.size + 2 ∨ (w.heap.size + 3 ≤ r ∧ ∃ o : Obj, A.heap[r]? = some o ∧ o.isCells = false)) : MapI w t B := by
  obtain ⟨v, h1, h2, h3, h4, h5⟩ := h
  have keep : ∀ k c ty f, A.heap[k]? = some (.cells c ty f) → k ≠ w.heap.size + 2 → B.heap[k]? = A.heap[k]? := by
    intro k c ty f hk hne
    refine hg.block k (Array.getElem?_eq_some_iff.1 hk).1 (fun e => ?_)
    rcases hr k e.symm with hq | ⟨_, o, ho, hc⟩
    · exact hne hq
    · rw [hk] at ho; cases ho; cases hc
  obtain ⟨h8, ⟨p, hp, hbk⟩, hrow⟩ := id h2
  refine ⟨v, (keep _ _ _ _ h1 (by omega)).trans h1, h2.heap (keep _ _ _ _ hbk (by omega)) (fun k hk => ?_), h3, h4.grown hg (fun k e => ?_), Nat.le_trans h5 hg.size⟩
  · obtain ⟨_, cur, fz, hcur⟩ := hrow.kind k hk
    exact keep _ _ _ _ hcur (by have := h3 k hk; omega)
  · rcases hr k e with q | ⟨q, _⟩
    · exact .inr (by omega)
    · exact .inr (by omega)

set_option maxRecDepth 100000 in
set_option maxHeartbeats 4000000 in
theorem mapLines_calls (s : Bs) (hs : s.length < 4294967281) (w : World) (G : Glob w) :
    Calls Tryz.prog 51 #[S s, .func (.func 52) #[] #[]] w fun e w' => e = .returned (S (stuffL s)) ∧ Below w.heap.size w w' := by
  refine callsIn_wide (n := 3).1 ?_
  refine callsIn_of_wp_marks Tryz.func51 rfl trivial ?_ rfl
  simp only [Tryz.ntmps51, List.size_toArray, List.length_cons, List.length_nil, Nat.reduceAdd, Nat.reduceSub, Array.replicate_succ, Array.replicate_zero, List.push_toArray, List.append_toArray, List.nil_append, List.cons_append]
  gi_wp2_with fail
  refine ⟨trivial, (callsIn_wide.2 (all_calls s _)).mono ?_⟩
  rintro e w1 ⟨rfl, rfl⟩
  gi_wp2_with fail
  obtain ⟨W0, hW0⟩ : ∃ W0, ((w.alloc (Obj.cells #[Value.func (Fn.func 52) #[] #[]] 54)).alloc (Obj.cells #[Value.pointer none, Value.slice none 0 0] 69)).alloc (Obj.cells #[S s] 9) = W0 := ⟨_, rfl⟩
  have hsz : W0.heap.size = w.heap.size + 3 := by rw [← hW0]; simp
  have hk0 : Below w.heap.size w W0 := by rw [← hW0]; exact (((Below.refl _ w).alloc (Nat.le_refl _) _).alloc (by simp) _).alloc (by simp; omega) _
  have hb0 : W0.heap[w.heap.size]? = some (.cells #[.func (.func 52) #[] #[]] 54 (0, 0)) := by
    rw [← hW0]; exact (Below.heap_alloc _ _ _ (by simp; omega)).trans ((Below.heap_alloc _ _ _ (by simp)).trans (World.alloc_heap_new w _))
  have hb1 : BuiltAt W0 (w.heap.size + 1) (.slice none 0 0) [] := by
    have q := BuiltAt.fresh (w.alloc (Obj.cells #[Value.func (Fn.func 52) #[] #[]] 54)) (by have := G.sz; simp; omega)
    rw [World.size_alloc] at q
    rw [← hW0]
    exact q.heap (Below.heap_alloc _ _ _ (by simp)) (fun k hk => by simp [Value.ownBlock] at hk)
  have hb2 : Boxed W0 (w.heap.size + 2) 9 (S s) := by
    rw [← hW0]
    have := Boxed.new ((w.alloc (Obj.cells #[Value.func (Fn.func 52) #[] #[]] 54)).alloc (Obj.cells #[Value.pointer none, Value.slice none 0 0] 69)) 9 (S s)
    rwa [World.size_alloc, World.size_alloc] at this
  have G0 : Glob W0 := G.below' hk0
  have hI0 : MapI w [] W0 := ⟨_, hb0, hb1, fun k hk => (by simp [Value.ownBlock] at hk), Kept.of_below hk0, by omega⟩
  have h8 := G.sz
  rw [hW0]
  refine wpIn_range81 (Bx := w.heap.size + 2) (s := s) (by decide) (by go_simp) (by omega) (by omega) (iter81 _ s hs W0 G0 (by omega) hb2)
    (MapI w) (fun t A B row h hg hr' => MapI.step t A B row h hg (fun r e => by rw [← hsz]; exact hr' r e)) hI0
    (fun x => { tmps := #[S s, Value.func (Fn.func 52) #[] #[], undef, Value.pointer (some { block := w.heap.size, off := 0 }),
          Value.string { data := #[] }, Value.pointer (some { block := w.heap.size + 1, off := 0 }), S x, S s,
          Value.func (Fn.func 81) #[] #[Value.pointer (some { block := w.heap.size + 1 + 1, off := 0 })], S x, undef,
          undef, undef, undef, undef], defers := [] }) ?_ ?_ ?_
  · intro l x W K hK
    gi_wp2
    exact hK
  · intro l pre x W hI hpre hD hL
    obtain ⟨v, h1, h2, h3, h4, h5⟩ := hI
    have hx : x ∈ linesL s := hpre.sublist.mem (a := x) (by simp)
    have hxn : x ≠ [] := lines_ne s x hx
    have c1 : W.cell? ⟨w.heap.size, 0, none⟩ = some (.func (.func 52) #[] #[]) := by simp [World.cell?, h1]
    have hpl : ((pre ++ [x]).map stuff1).flatten.length ≤ 2 * s.length := by
      have e1 := stuff_len (pre ++ [x]) (fun y hy => lines_ne s y (hpre.sublist.mem hy))
      have e2 := congrArg List.length (lines_flat s).1
      obtain ⟨tl, htl⟩ := hpre
      rw [← htl, List.flatten_append, List.length_append] at e2
      omega
    have hap : ((pre ++ [x]).map stuff1).flatten = (pre.map stuff1).flatten ++ stuff1 x := by simp
    rw [hap] at hpl
    have HH2 := Lib.hid h2
    gi_wp2_with fail
    refine ⟨trivial, ((callsIn_wide (n := _)).2 (stuff1_calls x hxn (by have := mem_linesL_le hx; omega) W)).inRound _ |>.mono ?_⟩
    rintro e W' ⟨rfl, hw'⟩
    rw [hw']
    clear hw'
    gi_wp2_with fail
    refine ⟨trivial, ((callsIn_wide (n := _)).2 (write_calls _ (w.heap.size + 1) v _ (stuff1 x) HH2.out (by rw [← List.length_append]; omega))).inRound _ |>.mono ?_⟩
    rintro e W' ⟨rfl, v', hbu, hk, hv⟩
    have HF := Lib.hid (And.intro hbu (And.intro hk hv))
    clear hbu hk hv
    gi_wp2_with fail
    obtain ⟨hbu, hk, hv⟩ := HF.out
    have hkb : ∀ k, v.ownBlock = some k → 8 ≤ k ∧ ∃ cur fz, W.heap[k]? = some (.cells cur 5 fz) := h2.2.2.kind
    obtain ⟨_, ⟨pp, _, hbk⟩, _⟩ := id h2
    have hno : ∀ (k : Nat) (o : Obj), W.heap[k]? = some o → o.isCells = false → ¬ (k = w.heap.size + 1 ∨ v.ownBlock = some k) := by
      rintro k o ho hc (rfl | e)
      · rw [hbk] at ho; cases ho; cases hc
      · obtain ⟨_, cur, fz, hc'⟩ := hkb _ e
        rw [hc'] at ho; cases ho; cases hc
    have hDlt := (Array.getElem?_eq_some_iff.1 hD).1
    refine ⟨hk.block _ hDlt (hno _ _ hD rfl), ?_, ⟨hk.below_of (by omega) ?_, hk.block _ (by omega) ?_⟩, ?_⟩
    · obtain ⟨r, hr⟩ := hL
      exact hk.block _ (Array.getElem?_eq_some_iff.1 hr).1 (hno _ _ hr rfl)
    · rintro k (rfl | e)
      · omega
      · have := h3 k e; omega
    · rintro (e | e)
      · omega
      · have := h3 _ e; omega
    · refine ⟨v', hk.heap h1 (fun e => e.elim (fun e => by omega) (fun e => by have := h3 _ e; omega)), ?_, fun k q => ?_, h4.trans' hk (fun i q => ?_), Nat.le_trans h5 hk.size⟩
      · rw [hap]; exact hbu
      · rcases hv k q with q | q
        · exact h3 k q
        · omega
      · rcases q with q | q
        · exact .inr (by omega)
        · exact .inr (by have := h3 i q; omega)
  · intro D W hD hI hK
    obtain ⟨v, h1, h2, h3, h4, h5⟩ := hI
    have HH2 := Lib.hid h2
    gi_wp2_with fail
    refine ⟨trivial, (callsIn_wide.2 (string_calls W (w.heap.size + 1) v _ HH2.out)).mono ?_⟩
    rintro e W' ⟨rfl, hbu, hk⟩
    have HF := Lib.hid (And.intro hbu hk)
    clear hbu hk
    gi_wp2_with fail
    obtain ⟨hbu, hk⟩ := HF.out
    have hK' : W'.heap[D]? = some (.deferred (some [])) := hk.heap hK fun e => by
      obtain ⟨_, cur, fz, hc'⟩ := h2.2.2.kind _ e
      rw [hc'] at hK; cases hK
    refine ⟨by simp, .inl ⟨_, _, rfl, run_takeDeferred hK', ?_⟩⟩
    refine ⟨_, results_tmp rfl _ _ _, rfl, ?_⟩
    have hkk : Kept NoBlk w W' := h4.trans' hk fun i q => .inr (by have := h3 i q; omega)
    exact (hkk.grown (grownBy_putObj' _ D _) (fun k e => by cases e; exact .inr (by omega))).below (fun _ q => q.elim)

set_option maxRecDepth 100000 in
/-- lines.Stuff. -/
theorem stuff_calls (s : Bs) (hs : s.length < 4294967281) (w : World) (G : Glob w) :
    Calls Tryz.prog 29 #[S s] w fun e w' => e = .returned (S (stuffL s)) ∧ Below w.heap.size w w' := by
  go_enter Tryz.func29, Tryz.ntmps29
  go_wp2_with fail
  refine (mapLines_calls s hs w G).mono ?_
  rintro e w1 ⟨rfl, hb⟩
  have HB := Lib.hid hb
  clear hb
  go_wp2
  go_ret
  exact ⟨rfl, HB.out⟩
end Go.Proofs.YtapanjfheddfnaaGreatDoor
