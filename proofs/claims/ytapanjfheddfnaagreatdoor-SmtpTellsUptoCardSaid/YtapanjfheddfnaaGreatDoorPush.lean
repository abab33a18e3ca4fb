/- The contract of (*lines.Feed).Push. -/
import Derived.Test.YtapanjfheddfnaaGreatDoorIter2
import Derived.Test.YtapanjfheddfnaaGreatDoorBridge
import Derived.Test.YtapanjfheddfnaaGreatDoorRow
namespace Go.Proofs.YtapanjfheddfnaaGreatDoor
open Go.RowKit Go.Shelf
attribute [local go_sem] Oper.semAt_some
attribute [local go_sem high] ext_to ext_from
attribute [local go_sem] ext_list app_list size_list

/-- One piece of a line goes into the feed. -/
def stepL (st : Bs × List Bs) (x : Bs) : Bs × List Bs :=
  if Lib.hasSuffix x [10] then ([], st.2 ++ [st.1 ++ x.take (min x.length (1000 - st.1.length))]) else (st.1 ++ x.take (min x.length (1000 - st.1.length)), st.2)
def pushL (rest : Bs) (chunk : Bs) : Bs × List Bs := (linesL chunk).foldl stepL (rest, [])

theorem cut_parts (s : Bs) (h : (Lib.cut s [10]).2.2 = true) : (Lib.cut s [10]).1.length + 1 + (Lib.cut s [10]).2.1.length ≤ s.length ∧ (Lib.cut s [10]).1.length + 1 ≤ s.length := by
  have h1 := cut_rest_lt s h
  unfold Lib.cut at h h1 ⊢
  split at h
  · rename_i h0
    simp only [if_pos h0] at h1 ⊢
    have hi := Lib.index_le s [10]
    have hi2 : Lib.index s [10] + 1 ≤ s.length := Lib.index_room s [10] h0
    simp only [List.length_take, List.length_drop, List.length_cons, List.length_nil] at h1 ⊢
    omega
  · cases h
theorem linesL_ind {p : Bs → List Bs → Prop} (h0 : p [] []) (h1 : ∀ s, s ≠ [] → (Lib.cut s [10]).2.2 = false → p s [s]) (h2 : ∀ s l, (Lib.cut s [10]).2.2 = true → p (Lib.cut s [10]).2.1 l → p s (((Lib.cut s [10]).1 ++ [10]) :: l)) (s : Bs) : p s (linesL s) := by
  generalize hn : s.length = n
  induction n using Nat.strongRecOn generalizing s with
  | _ n ih =>
    by_cases hs : s = []
    · subst hs; exact h0
    · cases hc : (Lib.cut s [10]).2.2
      · rw [linesL_last s hs hc]; exact h1 s hs hc
      · rw [linesL_ends s hs hc]
        exact h2 s _ hc (ih _ (by subst hn; exact cut_rest_lt s hc) _ rfl)
theorem linesL_len (s : Bs) : (linesL s).length ≤ s.length := by
  refine linesL_ind (p := fun s l => l.length ≤ s.length) (by simp) (fun s hs _ => ?_) (fun s l hc h => ?_) s
  · have := List.length_pos_iff.2 hs; simp; omega
  · have := cut_parts s hc; simp; omega
theorem mem_linesL_le {x s : Bs} (h : x ∈ linesL s) : x.length ≤ s.length := by
  refine linesL_ind (p := fun s l => ∀ x, x ∈ l → x.length ≤ s.length) (by simp) (fun s hs _ => by simp) (fun s l hc h x hx => ?_) s x h
  have := cut_parts s hc
  rcases List.mem_cons.1 hx with rfl | hx
  · simp; omega
  · have := h x hx; omega
/-- Between two lines. -/
def PushI (fb : Nat) (rv : Value) (rest : Bs) (w : World) (pre : List Bs) (W : World) : Prop :=
  ∃ rv' ov, W.heap[fb]? = some (.cells #[.int .i64 1000, rv'] 82 (0, 0)) ∧ RowAt W 5 rv' (bytesV (pre.foldl stepL (rest, [])).1) ∧ W.heap[w.heap.size]? = some (.cells #[.pointer (some ⟨fb, 0, none⟩)] 57 (0, 0)) ∧
    W.heap[w.heap.size + 1]? = some (.cells #[ov] 22 (0, 0)) ∧ RowAt W 9 ov (strsV (pre.foldl stepL (rest, [])).2) ∧ Kept (fun k => k = fb ∨ rv.ownBlock = some k) w W ∧
    (∀ k, rv'.ownBlock = some k → rv.ownBlock = some k ∨ w.heap.size + 3 ≤ k) ∧ (∀ k, ov.ownBlock = some k → w.heap.size + 3 ≤ k) ∧ w.heap.size + 3 ≤ W.heap.size

theorem stepL_le (st : Bs × List Bs) (x : Bs) (h : st.1.length ≤ 1000) : (stepL st x).1.length ≤ 1000 := by
  unfold stepL; split <;> simp; omega
theorem foldL_le (l : List Bs) (st : Bs × List Bs) (h : st.1.length ≤ 1000) : (l.foldl stepL st).1.length ≤ 1000 := by
  induction l generalizing st with
  | nil => exact h
  | cons x l ih => exact ih _ (stepL_le st x h)

theorem foldL_len (l : List Bs) (st : Bs × List Bs) : (l.foldl stepL st).2.length ≤ st.2.length + l.length := by
  induction l generalizing st with
  | nil => simp
  | cons x l ih =>
    have h1 := ih (stepL st x)
    have h2 : (stepL st x).2.length ≤ st.2.length + 1 := by unfold stepL; split <;> simp
    simp only [List.foldl_cons, List.length_cons]
    omega
theorem PushI.step {fb : Nat} {rv : Value} {rest : Bs} {w : World} (hfb : fb < w.heap.size) (hrv : ∀ k, rv.ownBlock = some k → k < w.heap.size) (t : List Bs) (A B : World) (row : Option Nat) (h : PushI fb rv rest w t A) (hg : A.grownBy B row)
    (hr : ∀ r, row = some r → r = w.heap.size + 2 ∨ (w.heap.size + 3 ≤ r ∧ ∃ o : Obj, A.heap[r]? = some o ∧ o.isCells = false)) : PushI fb rv rest w t B := by
  obtain ⟨rv', ov, h1, h2, h3, h4, h5, h6, h7, h8, h9⟩ := h
  have keep : ∀ k c ty f, A.heap[k]? = some (.cells c ty f) → k ≠ w.heap.size + 2 → B.heap[k]? = A.heap[k]? := by
    intro k c ty f hk hne
    refine hg.block k (Array.getElem?_eq_some_iff.1 hk).1 (fun e => ?_)
    rcases hr k e.symm with hq | ⟨_, o, ho, hc⟩
    · exact hne hq
    · rw [hk] at ho; cases ho; cases hc
  refine ⟨rv', ov, (keep _ _ _ _ h1 (by omega)).trans h1, h2.heap (fun k hk => ?_), (keep _ _ _ _ h3 (by omega)).trans h3, (keep _ _ _ _ h4 (by omega)).trans h4, h5.heap (fun k hk => ?_), h6.grown hg (fun k e => ?_), h7, h8, Nat.le_trans h9 hg.size⟩
  · obtain ⟨cur, hcur⟩ := h2.kind k hk
    refine keep _ _ _ _ hcur ?_
    rcases h7 k hk with q | q
    · have := hrv k q; omega
    · omega
  · obtain ⟨cur, hcur⟩ := h5.kind k hk
    exact keep _ _ _ _ hcur (by have := h8 k hk; omega)
  · rcases hr k e with q | ⟨q, _⟩
    · exact .inr (by omega)
    · exact .inr (by omega)

set_option maxRecDepth 100000 in
set_option maxHeartbeats 4000000 in
theorem push_calls (fb : Nat) (rv : Value) (rest chunk : Bs) (hc : chunk.length < 4294967281) (hr : rest.length ≤ 1000) (w : World) (G : Glob w) (hfb : w.heap[fb]? = some (.cells #[.int .i64 1000, rv] 82 (0, 0))) (h8 : 8 ≤ fb) (hrow : RowAt w 5 rv (bytesV rest)) :
    Calls Tryz.prog 35 #[.pointer (some ⟨fb, 0, none⟩), S chunk] w fun e w' => ∃ rv' ov, e = .returned ov ∧ w'.heap[fb]? = some (.cells #[.int .i64 1000, rv'] 82 (0, 0)) ∧ RowAt w' 5 rv' (bytesV (pushL rest chunk).1) ∧
      RowAt w' 9 ov (strsV (pushL rest chunk).2) ∧ Kept (fun k => k = fb ∨ rv.ownBlock = some k) w w' ∧ (∀ k, rv'.ownBlock = some k → rv.ownBlock = some k ∨ w.heap.size ≤ k) ∧ (∀ k, ov.ownBlock = some k → w.heap.size ≤ k) := by
  have hfl : fb < w.heap.size := (Array.getElem?_eq_some_iff.1 hfb).1
  have hrl : ∀ k, rv.ownBlock = some k → k < w.heap.size := fun k hk => (hrow.lt k hk).2
  refine callsIn_wide (n := 3).1 ?_
  refine callsIn_of_wp_marks Tryz.func35 rfl trivial ?_ rfl
  simp only [Tryz.ntmps35, List.size_toArray, List.length_cons, List.length_nil, Nat.reduceAdd, Nat.reduceSub, Array.replicate_succ, Array.replicate_zero, List.push_toArray, List.append_toArray, List.nil_append, List.cons_append]
  gi_wp2_with fail
  refine ⟨trivial, (callsIn_wide.2 (all_calls chunk _)).mono ?_⟩
  rintro e w1 ⟨rfl, rfl⟩
  gi_wp2_with fail
  obtain ⟨W0, hW0⟩ : ∃ W0, ((w.alloc (Obj.cells #[Value.pointer (some { block := fb, off := 0 })] 57)).alloc (Obj.cells #[Value.slice none 0 0] 22)).alloc (Obj.cells #[S chunk] 9) = W0 := ⟨_, rfl⟩
  have hsz : W0.heap.size = w.heap.size + 3 := by rw [← hW0]; simp
  have hk0 : Below w.heap.size w W0 := by rw [← hW0]; exact (((Below.refl _ w).alloc (Nat.le_refl _) _).alloc (by simp) _).alloc (by simp; omega) _
  have hb0 : W0.heap[w.heap.size]? = some (.cells #[.pointer (some ⟨fb, 0, none⟩)] 57 (0, 0)) := by
    rw [← hW0]; exact (Below.heap_alloc _ _ _ (by simp; omega)).trans ((Below.heap_alloc _ _ _ (by simp)).trans (World.alloc_heap_new w _))
  have hb1 : W0.heap[w.heap.size + 1]? = some (.cells #[.slice none 0 0] 22 (0, 0)) := by
    rw [← hW0]; refine (Below.heap_alloc _ _ _ (by simp)).trans ?_
    have := World.alloc_heap_new (w.alloc (Obj.cells #[Value.pointer (some { block := fb, off := 0 })] 57)) (Obj.cells #[Value.slice none 0 0] 22)
    rwa [World.size_alloc] at this
  have hb2 : Boxed W0 (w.heap.size + 2) 9 (S chunk) := by
    rw [← hW0]
    have := Boxed.new ((w.alloc (Obj.cells #[Value.pointer (some { block := fb, off := 0 })] 57)).alloc (Obj.cells #[Value.slice none 0 0] 22)) 9 (S chunk)
    rwa [World.size_alloc, World.size_alloc] at this
  have G0 : Glob W0 := G.below' hk0
  have hfb0 : W0.heap[fb]? = some (.cells #[.int .i64 1000, rv] 82 (0, 0)) := (hk0.block fb hfl).trans hfb
  have hI0 : PushI fb rv rest w [] W0 := ⟨rv, .slice none 0 0, hfb0, hrow.heap (fun k hk => hk0.block k (hrl k hk)), hb0, hb1, RowAt.nil _ _, Kept.of_below hk0, fun k hk => .inl hk, fun k hk => by simp [Value.ownBlock] at hk, by omega⟩
  rw [hW0]
  refine wpIn_range81 (Bx := w.heap.size + 2) (s := chunk) (by decide) (by go_simp) (by omega) (by omega) (iter81 _ chunk hc W0 G0 (by omega) hb2)
    (PushI fb rv rest w) (fun t A B row h hg hr' => PushI.step hfl hrl t A B row h hg (fun r e => by rw [← hsz]; exact hr' r e)) hI0
    (fun x => { tmps := #[Value.pointer (some { block := fb, off := 0 }), S chunk,
          Value.pointer (some { block := w.heap.size, off := 0 }), undef, Value.slice none 0 0,
          Value.pointer (some { block := w.heap.size + 1, off := 0 }), S x, S chunk,
          Value.func (Fn.func 81) #[] #[Value.pointer (some { block := w.heap.size + 1 + 1, off := 0 })], S x, undef,
          undef, undef, undef, undef, undef, undef, undef, undef, undef, undef, undef, undef, undef, undef, undef,
          undef, undef, undef, undef, undef, undef, undef, undef, undef, undef, undef, undef, undef, undef, undef,
          undef, undef, undef, undef, undef, undef, undef, undef, undef, undef, undef], defers := [] }) ?_ ?_ ?_
  · intro l x W K hK
    gi_wp2
    exact hK
  · intro l pre x W hI hpre hD hL
    obtain ⟨rv', ov, h1, h2, h3, h4, h5, h6, h7, h8', h9⟩ := hI
    gi_wp2_with fail
    have hst : (pre.foldl stepL (rest, [])).1.length ≤ 1000 := foldL_le _ _ hr
    obtain ⟨cu, hcu⟩ : ∃ cu, (pre.foldl stepL (rest, [])).1 = cu := ⟨_, rfl⟩
    obtain ⟨os, hos⟩ : ∃ os, (pre.foldl stepL (rest, [])).2 = os := ⟨_, rfl⟩
    rw [hcu] at h2 hst
    rw [hos] at h5
    have hosl : os.length ≤ chunk.length := by
      have e1 := foldL_len pre (rest, [])
      have e2 := hpre.length_le
      have e3 := linesL_len chunk
      rw [hos] at e1
      simp at e1 e2
      omega
    obtain ⟨ra, rc, hrv'⟩ := h2.slice
    rw [hrv'] at h1 h2 h7
    have hbl : (bytesV cu).length = cu.length := by simp [bytesV]
    rw [hbl] at h1 h2 h7 
    refine wpIn_region_heldR (fun w' => w'.cell? ⟨fb, 0, none⟩ = some (.int .i64 1000) ∧ w'.cell? ⟨fb, 1, none⟩ = some (.slice ra cu.length rc) ∧ w'.cell? ⟨w.heap.size, 0, none⟩ = some (.pointer (some ⟨fb, 0, none⟩))) 23 (by kernel_rfl) (by kernel_rfl) ?_
    have hc0 : W.cell? ⟨fb, 0, none⟩ = some (.int .i64 1000) := by simp [World.cell?, h1]
    have hc1 : W.cell? ⟨fb, 1, none⟩ = some (.slice ra cu.length rc) := by simp [World.cell?, h1]
    have hc2 : W.cell? ⟨w.heap.size, 0, none⟩ = some (.pointer (some ⟨fb, 0, none⟩)) := by simp [World.cell?, h3]
    have hxl : x.length ≤ chunk.length := mem_linesL_le (by have := hpre.sublist.mem (a := x) (by simp); exact this)
    simp only [size_list, Array.replicate_succ, Array.replicate_zero, List.push_toArray, List.nil_append, List.cons_append, List.size_toArray, List.length_cons, List.length_nil, Nat.reduceAdd]
    refine' wpAnyG_takeD 0 (some 10) (v := _) (by decide) (by kernel_rfl) (by kernel_rfl) rfl rfl (by kernel_rfl) (by kernel_rfl) (by kernel_rfl) (fun _ _ _ h => h) rfl ?_ ⟨hc0, hc1, hc2⟩ ?_
    rotate_left 1
    · (intro w' hSw; (try dsimp only at hSw); go_simp; first | done | with_reducible rfl)
    simp only [Act.put, List.setIfInBounds_toArray, List.set_cons_zero, List.set_cons_succ]
    refine' wpAnyG_takeD 1 (some 11) (v := _) (by decide) (by kernel_rfl) (by kernel_rfl) rfl rfl (by kernel_rfl) (by kernel_rfl) (by kernel_rfl) (fun _ _ _ h => h) rfl ?_ ⟨hc0, hc1, hc2⟩ ?_
    rotate_left 1
    · (intro w' hSw; (try dsimp only at hSw); go_simp; first | done | with_reducible rfl)
    simp only [Act.put, List.setIfInBounds_toArray, List.set_cons_zero, List.set_cons_succ]
    refine' wpAnyG_takeD 2 (some 12) (v := _) (by decide) (by kernel_rfl) (by kernel_rfl) rfl rfl (by kernel_rfl) (by kernel_rfl) (by kernel_rfl) (fun _ _ _ h => h) rfl ?_ ⟨hc0, hc1, hc2⟩ ?_
    rotate_left 1
    · (intro w' hSw; (try dsimp only at hSw); go_simp; first | done | with_reducible rfl)
    simp only [Act.put, List.setIfInBounds_toArray, List.set_cons_zero, List.set_cons_succ]
    refine' wpAnyG_takeD 3 (some 13) (v := _) (by decide) (by kernel_rfl) (by kernel_rfl) rfl rfl (by kernel_rfl) (by kernel_rfl) (by kernel_rfl) (fun _ _ _ h => h) rfl ?_ ⟨hc0, hc1, hc2⟩ ?_
    rotate_left 1
    · (intro w' hSw; (try dsimp only at hSw); go_simp; first | done | with_reducible rfl)
    simp only [Act.put, List.setIfInBounds_toArray, List.set_cons_zero, List.set_cons_succ]
    refine' wpAnyG_takeD 4 (some 14) (v := _) (by decide) (by kernel_rfl) (by kernel_rfl) rfl rfl (by kernel_rfl) (by kernel_rfl) (by kernel_rfl) (fun _ _ _ h => h) rfl ?_ ⟨hc0, hc1, hc2⟩ ?_
    rotate_left 1
    · (intro w' hSw; (try dsimp only at hSw); go_simp; first | done | with_reducible rfl)
    simp only [Act.put, List.setIfInBounds_toArray, List.set_cons_zero, List.set_cons_succ]
    refine' wpAnyG_takeD 5 (some 15) (v := _) (by decide) (by kernel_rfl) (by kernel_rfl) rfl rfl (by kernel_rfl) (by kernel_rfl) (by kernel_rfl) (fun _ _ _ h => h) rfl ?_ ⟨hc0, hc1, hc2⟩ ?_
    rotate_left 1
    · (intro w' hSw; (try dsimp only at hSw); go_simp; first | done | with_reducible rfl)
    simp only [Act.put, List.setIfInBounds_toArray, List.set_cons_zero, List.set_cons_succ]
    refine' wpAnyG_takeD 6 (some 16) (v := _) (by decide) (by kernel_rfl) (by kernel_rfl) rfl rfl (by kernel_rfl) (by kernel_rfl) (by kernel_rfl) (fun _ _ _ h => h) rfl ?_ ⟨hc0, hc1, hc2⟩ ?_
    rotate_left 1
    · (intro w' hSw; (try dsimp only at hSw); go_simp; first | done | with_reducible rfl)
    simp only [Act.put, List.setIfInBounds_toArray, List.set_cons_zero, List.set_cons_succ]
    refine' wpAnyG_takeD 7 (some 17) (v := _) (by decide) (by kernel_rfl) (by kernel_rfl) rfl rfl (by kernel_rfl) (by kernel_rfl) (by kernel_rfl) (fun _ _ _ h => h) rfl ?_ ⟨hc0, hc1, hc2⟩ ?_
    rotate_left 1
    · (intro w' hSw; (try dsimp only at hSw); go_simp; first | done | with_reducible rfl)
    simp only [Act.put, List.setIfInBounds_toArray, List.set_cons_zero, List.set_cons_succ]
    refine' wpAnyG_takeD 8 (some 18) (v := _) (by decide) (by kernel_rfl) (by kernel_rfl) rfl rfl (by kernel_rfl) (by kernel_rfl) (by kernel_rfl) (fun _ _ _ h => h) rfl ?_ ⟨hc0, hc1, hc2⟩ ?_
    rotate_left 1
    · (intro w' hSw; (try dsimp only at hSw); go_simp; first | done | with_reducible rfl)
    simp only [Act.put, List.setIfInBounds_toArray, List.set_cons_zero, List.set_cons_succ]
    refine' wpAnyG_takeD 9 (some 19) (v := _) (by decide) (by kernel_rfl) (by kernel_rfl) rfl rfl (by kernel_rfl) (by kernel_rfl) (by kernel_rfl) (fun _ _ _ h => h) rfl ?_ ⟨hc0, hc1, hc2⟩ ?_
    rotate_left 1
    · (intro w' hSw; (try dsimp only at hSw); go_simp; first | done | with_reducible rfl)
    simp only [Act.put, List.setIfInBounds_toArray, List.set_cons_zero, List.set_cons_succ]
    refine' wpAnyG_takeD 10 (some 20) (v := _) (by decide) (by kernel_rfl) (by kernel_rfl) rfl rfl (by kernel_rfl) (by kernel_rfl) (by kernel_rfl) (fun _ _ _ h => h) rfl ?_ ⟨hc0, hc1, hc2⟩ ?_
    rotate_left 1
    · (intro w' hSw; (try dsimp only at hSw); go_simp; first | done | with_reducible rfl)
    simp only [Act.put, List.setIfInBounds_toArray, List.set_cons_zero, List.set_cons_succ]
    refine' wpAnyG_takeD 11 (some 21) (v := _) (by decide) (by kernel_rfl) (by kernel_rfl) rfl rfl (by kernel_rfl) (by kernel_rfl) (by kernel_rfl) (fun _ _ _ h => h) rfl ?_ ⟨hc0, hc1, hc2⟩ ?_
    rotate_left 1
    · (intro w' hSw; (try dsimp only at hSw); go_simp; first | done | with_reducible rfl)
    simp only [Act.put, List.setIfInBounds_toArray, List.set_cons_zero, List.set_cons_succ]
    refine' wpAnyG_takeD 12 (some 22) (v := _) (by decide) (by kernel_rfl) (by kernel_rfl) rfl rfl (by kernel_rfl) (by kernel_rfl) (by kernel_rfl) (fun _ _ _ h => h) rfl ?_ ⟨hc0, hc1, hc2⟩ ?_
    rotate_left 1
    · (intro w' hSw; (try dsimp only at hSw); go_simp; first | done | with_reducible rfl)
    simp only [Act.put, List.setIfInBounds_toArray, List.set_cons_zero, List.set_cons_succ]
    refine' wpAnyG_takeD 13 (some 23) (v := _) (by decide) (by kernel_rfl) (by kernel_rfl) rfl rfl (by kernel_rfl) (by kernel_rfl) (by kernel_rfl) (fun _ _ _ h => h) rfl ?_ ⟨hc0, hc1, hc2⟩ ?_
    rotate_left 1
    · (intro w' hSw; (try dsimp only at hSw); go_simp; first | done | with_reducible rfl)
    simp only [Act.put, List.setIfInBounds_toArray, List.set_cons_zero, List.set_cons_succ]
    refine' wpAnyG_takeD 14 (some 24) (v := _) (by decide) (by kernel_rfl) (by kernel_rfl) rfl rfl (by kernel_rfl) (by kernel_rfl) (by kernel_rfl) (fun _ _ _ h => h) rfl ?_ ⟨hc0, hc1, hc2⟩ ?_
    rotate_left 1
    · (intro w' hSw; (try dsimp only at hSw); go_simp; first | done | with_reducible rfl)
    simp only [Act.put, List.setIfInBounds_toArray, List.set_cons_zero, List.set_cons_succ]
    refine' wpAnyG_takeD 15 (some 25) (v := _) (by decide) (by kernel_rfl) (by kernel_rfl) rfl rfl (by kernel_rfl) (by kernel_rfl) (by kernel_rfl) (fun _ _ _ h => h) rfl ?_ ⟨hc0, hc1, hc2⟩ ?_
    rotate_left 1
    · (intro w' hSw; (try dsimp only at hSw); go_simp; first | done | with_reducible rfl)
    simp only [Act.put, List.setIfInBounds_toArray, List.set_cons_zero, List.set_cons_succ]
    refine' wpAnyG_takeD 16 (some 26) (v := _) (by decide) (by kernel_rfl) (by kernel_rfl) rfl rfl (by kernel_rfl) (by kernel_rfl) (by kernel_rfl) (fun _ _ _ h => h) rfl ?_ ⟨hc0, hc1, hc2⟩ ?_
    rotate_left 1
    · (intro w' hSw; (try dsimp only at hSw); go_simp; first | done | with_reducible rfl)
    simp only [Act.put, List.setIfInBounds_toArray, List.set_cons_zero, List.set_cons_succ]
    refine' wpAnyG_takeD 17 (some 27) (v := _) (by decide) (by kernel_rfl) (by kernel_rfl) rfl rfl (by kernel_rfl) (by kernel_rfl) (by kernel_rfl) (fun _ _ _ h => h) rfl ?_ ⟨hc0, hc1, hc2⟩ ?_
    rotate_left 1
    · (intro w' hSw; (try dsimp only at hSw); go_simp; first | done | with_reducible rfl)
    simp only [Act.put, List.setIfInBounds_toArray, List.set_cons_zero, List.set_cons_succ]
    have hwr : IntKind.i64.wrap (1000 - (cu.length : Int)) = ((1000 - cu.length : Nat) : Int) := by
      rw [IntWalk.i64_in _ ⟨by omega, by omega⟩]; omega
    rw [hwr]
    refine' wpAnyG_takeT 18 (some 28) (v := _) (by decide) rfl rfl (by kernel_rfl) (by kernel_rfl) (by kernel_rfl) (fun _ _ _ h => h) rfl ?_ (fun _ => ⟨hc0, hc1, hc2⟩) ?_
    rotate_left 1
    · (intro w'; go_simp; first | done | with_reducible rfl)
    simp only [Act.put, List.setIfInBounds_toArray, List.set_cons_zero, List.set_cons_succ]
    obtain ⟨m, hm⟩ : ∃ m, min x.length (1000 - cu.length) = m := ⟨_, rfl⟩
    have hmi : min (x.length : Int) ((1000 - cu.length : Nat) : Int) = (m : Int) := by omega
    rw [hmi]
    have hmx : (m : Int) ≤ (x.length : Int) := by omega
    have hm0 : (0 : Int) ≤ (m : Int) := by omega
    refine' wpAnyG_takeT 19 (some 29) (v := _) (by decide) rfl rfl (by kernel_rfl) (by kernel_rfl) (by kernel_rfl) (fun _ _ _ h => h) rfl ?_ (fun _ => ⟨hc0, hc1, hc2⟩) ?_
    rotate_left 1
    · (intro w'; go_simp; first | done | with_reducible rfl)
    simp only [Act.put, List.setIfInBounds_toArray, List.set_cons_zero, List.set_cons_succ]
    have hml : (x.take m).length = m := by rw [List.length_take]; omega
    obtain ⟨v1, w1, happ, hr1, hg1, hv1⟩ := RowAt.append (P := Tryz.prog) (w := W.drew) h2 (by simp; omega) 67 9 67 _ _ 1 Tryz.underlying67 (by rfl) (by rfl) (by rfl) (by rfl) (by rfl) (S (x.take m)) _ _ (src_S _ Tryz.underlying9 _) (by rw [hml, hbl]; simp [maxLen]; omega) (by rw [hml, hbl]; omega)
    obtain ⟨a1, c1, hv1'⟩ := hr1.slice
    subst hv1'
    have hrne : ∀ k, (Value.slice ra cu.length rc).ownBlock = some k → k ≠ fb ∧ k ≠ w.heap.size ∧ k ≠ w.heap.size + 1 := by
      intro k hk
      obtain ⟨c, hc⟩ := h2.kind k hk
      refine ⟨?_, ?_, ?_⟩ <;> rintro rfl
      · rw [h1] at hc; simp at hc
      · rw [h3] at hc; simp at hc
      · rw [h4] at hc; simp at hc
    have hg1' : ∀ k, k < W.heap.size → (∀ j, (Value.slice ra cu.length rc).ownBlock = some j → k ≠ j) → w1.heap[k]? = W.heap[k]? := fun k hk hn => hg1.block k (by simpa using hk) (fun e => hn k e.symm rfl)
    have h1' : w1.heap[fb]? = _ := (hg1' fb (Array.getElem?_eq_some_iff.1 h1).1 fun j hj e => (hrne j hj).1 e.symm).trans h1
    have h3' : w1.heap[w.heap.size]? = _ := (hg1' _ (Array.getElem?_eq_some_iff.1 h3).1 fun j hj e => (hrne j hj).2.1 e.symm).trans h3
    have h4' : w1.heap[w.heap.size + 1]? = _ := (hg1' _ (Array.getElem?_eq_some_iff.1 h4).1 fun j hj e => (hrne j hj).2.2 e.symm).trans h4
    have hd0 : w1.cell? ⟨fb, 0, none⟩ = some (.int .i64 1000) := by simp [World.cell?, h1']
    have hd1 : w1.cell? ⟨fb, 1, none⟩ = some (.slice ra cu.length rc) := by simp [World.cell?, h1']
    have hd2 : w1.cell? ⟨w.heap.size, 0, none⟩ = some (.pointer (some ⟨fb, 0, none⟩)) := by simp [World.cell?, h3']
    have hd3 : w1.frozen? ⟨fb, 1, none⟩ = false := by simp [World.frozen?, h1']
    refine wpAnyG_oneD 20 (some 30) (v := .slice a1 (bytesV cu ++ bytesV (x.take m)).length c1) (w' := w1) (by kernel_rfl) rfl rfl rfl ?_ ?_ ?_
    · have hr1' := hr1
      exact exec_append _ (.tmp 14) (.tmp 29) 67 9 rfl _ _ rfl rfl _ _ happ
    · exact fun _ => ⟨hd0, hd1, hd2⟩
    simp only [Act.put, List.setIfInBounds_toArray, List.set_cons_zero, List.set_cons_succ]
    refine' wpAnyG_takeT 21 (some 31) (v := _) (by decide) rfl rfl (by kernel_rfl) (by kernel_rfl) (by kernel_rfl) (fun _ _ _ h => h) rfl ?_ (fun _ => ⟨hd0, hd1, hd2⟩) ?_
    rotate_left 1
    · (intro w'; go_simp; first | done | with_reducible rfl)
    simp only [Act.put, List.setIfInBounds_toArray, List.set_cons_zero, List.set_cons_succ]
    refine' wpAnyG_takeT 22 (some 32) (v := _) (by decide) rfl rfl (by kernel_rfl) (by kernel_rfl) (by kernel_rfl) (fun _ _ _ h => h) rfl ?_ (fun _ => ⟨hd0, hd1, hd2⟩) ?_
    rotate_left 1
    · (intro w'; go_simp; first | done | with_reducible rfl)
    simp only [Act.put, List.setIfInBounds_toArray, List.set_cons_zero, List.set_cons_succ]
    refine wpAnyG_one_skip (i := 23) (w' := w1.setCell ⟨fb, 1, none⟩ (.slice a1 (bytesV cu ++ bytesV (x.take m)).length c1)) (by kernel_rfl) rfl rfl ?_ ?_ ?_
    · go_simp
    · exact fun h => (by cases h)
    refine wpAnyG_done (by kernel_rfl) ?_ _
    obtain ⟨W2, hW2⟩ : ∃ W2, w1.setCell ⟨fb, 1, none⟩ (.slice a1 (bytesV cu ++ bytesV (x.take m)).length c1) = W2 := ⟨_, rfl⟩
    rw [hW2]
    have hN : (bytesV cu ++ bytesV (x.take m)).length = cu.length + m := by simp [bytesV, hbl]; omega
    have hbb : bytesV (cu ++ x.take m) = bytesV cu ++ bytesV (x.take m) := by simp [bytesV]
    have hr1' := hr1
    rw [hN] at hW2 hr1
    simp only [NoOut, Exit.then]
    gi_wp2_with fail
    have hxl2 : x.length ≤ 9223372036854775807 := by omega
    obtain ⟨hb, hhb⟩ : ∃ hb, Lib.hasSuffix x [10] = hb := ⟨_, rfl⟩
    have h1'' : W2.heap[fb]? = some (.cells #[.int .i64 1000, .slice a1 (cu.length + m) c1] 82 (0, 0)) := by
      rw [← hW2]; exact (heap_set h1' _).trans rfl
    have hK2 : Kept (fun k => k = fb ∨ (Value.slice ra cu.length rc).ownBlock = some k) W W2 := by
      rw [← hW2]
      exact (((Kept.refl _ W).drew).grown hg1 (fun k e => .inl (.inr e))).setCell (.inl (.inl rfl)) _
    have hrlt : ∀ k, (Value.slice ra cu.length rc).ownBlock = some k → k ≠ W0.heap.size ∧ k ≠ W0.heap.size + 1 := by
      intro k hk
      obtain ⟨c, hc⟩ := h2.kind k hk
      refine ⟨?_, ?_⟩ <;> rintro rfl
      · rw [hD] at hc; cases hc
      · obtain ⟨r, hr⟩ := hL; rw [hr] at hc; cases hc
    have hr2 : RowAt W2 5 (.slice a1 (cu.length + m) c1) (bytesV cu ++ bytesV (x.take m)) := by
      rw [hN] at hr1'
      rw [← hW2]
      refine hr1'.heap fun k hk => Below.heap_setCell _ _ _ _ ?_
      rintro rfl
      obtain ⟨c, hc⟩ := hr1'.kind _ hk
      rw [h1'] at hc; simp at hc
    obtain ⟨oa, oc, hov⟩ := h5.slice
    subst hov
    have hol : (strsV os).length = os.length := by simp [strsV]
    rw [hol] at h4 h4' h5 h8'
    have h3'' : W2.heap[w.heap.size]? = some (.cells #[.pointer (some ⟨fb, 0, none⟩)] 57 (0, 0)) := hK2.heap h3 (fun e => e.elim (fun e => by omega) (fun e => (hrne _ e).2.1 rfl))
    have h4'' : W2.heap[w.heap.size + 1]? = some (.cells #[.slice oa os.length oc] 22 (0, 0)) := hK2.heap h4 (fun e => e.elim (fun e => by omega) (fun e => (hrne _ e).2.2 rfl))
    have h5' : RowAt W2 9 (.slice oa os.length oc) (strsV os) := h5.kept hK2 fun k hk hq => by
      rcases hq with rfl | hq
      · have := h8' _ hk; omega
      · obtain ⟨c, hc⟩ := h2.kind k hq
        obtain ⟨c', hc'⟩ := h5.kind k hk
        rw [hc] at hc'; simp at hc'
    have hfold : (pre ++ [x]).foldl stepL (rest, []) = stepL (cu, os) x := by
      rw [List.foldl_append, ← hcu, ← hos]; rfl
    have hS1 : ∀ i, (i = fb ∨ (Value.slice ra cu.length rc).ownBlock = some i) → (i = fb ∨ rv.ownBlock = some i) ∨ w.heap.size ≤ i := by
      rintro i (rfl | e)
      · exact .inl (.inl rfl)
      · rcases h7 i e with q | q
        · exact .inl (.inr q)
        · exact .inr (by omega)
    have hown1 : ∀ k, (Value.slice a1 (cu.length + m) c1).ownBlock = some k → rv.ownBlock = some k ∨ w.heap.size + 3 ≤ k := by
      intro k hk
      rcases hv1 k ((own_len ..).trans hk) with q | q
      · exact h7 k q
      · exact .inr (by have : W.drew.heap.size = W.heap.size := rfl; omega)
    have fin : ∀ Wf : World, Kept (fun k => (k = fb ∨ (Value.slice ra cu.length rc).ownBlock = some k) ∨ k = w.heap.size + 1 ∨ (Value.slice oa os.length oc).ownBlock = some k) W Wf → PushI fb rv rest w (pre ++ [x]) Wf → ∀ a, bodyB W0 (w.heap.size + 2) (PushI fb rv rest w) (pre ++ [x]) W .normal a Wf := by
      intro Wf hKf hIf a
      have hDlt := (Array.getElem?_eq_some_iff.1 hD).1
      have hno : ∀ k o, W.heap[k]? = some o → o.isCells = false → ¬ ((k = fb ∨ (Value.slice ra cu.length rc).ownBlock = some k) ∨ k = w.heap.size + 1 ∨ (Value.slice oa os.length oc).ownBlock = some k) := by
        rintro k o hk hc ((rfl | e) | rfl | e)
        · rw [h1] at hk; cases hk; cases hc
        · obtain ⟨c, hc'⟩ := h2.kind _ e; rw [hc'] at hk; cases hk; cases hc
        · rw [h4] at hk; cases hk; cases hc
        · obtain ⟨c, hc'⟩ := h5.kind _ e; rw [hc'] at hk; cases hk; cases hc
      refine ⟨hKf.block _ hDlt (hno _ _ hD rfl), ?_, ⟨hKf.below_of (by have := G.sz; omega) ?_, hKf.block _ (by omega) ?_⟩, hIf⟩
      · obtain ⟨r, hr⟩ := hL
        exact hKf.block _ (Array.getElem?_eq_some_iff.1 hr).1 (hno _ _ hr rfl)
      · rintro k ((rfl | e) | rfl | e)
        · exact h8
        · exact (h2.lt _ e).1
        · have := G.sz; omega
        · exact (h5.lt _ e).1
      · rintro ((e | e) | e | e)
        · omega
        · rcases h7 _ e with q | q
          · have := hrl _ q; omega
          · omega
        · omega
        · have := h8' _ e; omega
    refine ⟨trivial, ((callsIn_wide (n := _)).2 (Tryz.strings_HasSuffix ⟨x.toArray⟩ ⟨#[10]⟩ W2 hxl2)).inRound _ |>.mono ?_⟩
    have HB := Lib.hid hhb
    rintro e W2' ⟨rfl, hw2⟩
    rw [hw2]
    clear hw2 W2'
    have hq : Ending.returned (Value.bool (Lib.hasSuffix (⟨x.toArray⟩ : ByteArray).data.toList (⟨#[10]⟩ : ByteArray).data.toList)) = .returned (.bool hb) := by rw [← hhb]
    rw [hq]
    cases hb
    · gi_wp2_with fail
      have hstep : stepL (cu, os) x = (cu ++ x.take m, os) := by simp [stepL, HB.out, hm]
      refine fin W2 (hK2.mono fun k h => .inl (.inl h)) ?_ _
      refine ⟨.slice a1 (cu.length + m) c1, .slice oa os.length oc, h1'', ?_, h3'', h4'', ?_, h6.trans' hK2 hS1, hown1, h8', Nat.le_trans h9 hK2.size⟩
      · rw [hfold, hstep, hbb]; exact hr2
      · rw [hfold, hstep]; exact h5'
    · gi_wp2_with fail
      have hq0 : W2.cell? ⟨w.heap.size + 1, 0, none⟩ = some (.slice oa os.length oc) := by simp [World.cell?, h4'']
      have hq1 : W2.cell? ⟨w.heap.size, 0, none⟩ = some (.pointer (some ⟨fb, 0, none⟩)) := by simp [World.cell?, h3'']
      have hq2 : W2.cell? ⟨fb, 1, none⟩ = some (.slice a1 (cu.length + m) c1) := by simp [World.cell?, h1'']
      have hq3 : RowAt W2 5 (.slice a1 (cu.length + m) c1) (bytesV (cu ++ x.take m)) := by rwa [hbb]
      obtain ⟨W3, hW3⟩ : ∃ W3, W2.drew.alloc (.cells #[S (cu ++ x.take m)] 9) = W3 := ⟨_, rfl⟩
      have hK3 : Kept NoBlk W2 W3 := by rw [← hW3]; exact ((Kept.refl _ W2).drew).alloc _
      refine wpIn_region_heldR (fun w' => w'.cell? ⟨w.heap.size + 1, 0, none⟩ = some (.slice oa os.length oc) ∧ w'.cell? ⟨w.heap.size, 0, none⟩ = some (.pointer (some ⟨fb, 0, none⟩)) ∧ w'.cell? ⟨fb, 1, none⟩ = some (.slice a1 (cu.length + m) c1) ∧
        RowAt w' 5 (.slice a1 (cu.length + m) c1) (bytesV (cu ++ x.take m))) 8 (by kernel_rfl) (by kernel_rfl) ?_
      simp only [size_list, Array.replicate_succ, Array.replicate_zero, List.push_toArray, List.nil_append, List.cons_append, List.size_toArray, List.length_cons, List.length_nil, Nat.reduceAdd]
      refine' wpAnyG_takeD 0 (some 35) (v := _) (by decide) (by kernel_rfl) (by kernel_rfl) rfl rfl (by kernel_rfl) (by kernel_rfl) (by kernel_rfl) (fun _ _ _ h => h) rfl ?_ ⟨hq0, hq1, hq2, hq3⟩ ?_
      rotate_left 1
      · (intro w' hSw; (try dsimp only at hSw); go_simp; first | done | with_reducible rfl)
      simp only [Act.put, List.setIfInBounds_toArray, List.set_cons_zero, List.set_cons_succ]
      refine' wpAnyG_takeD 1 (some 36) (v := _) (by decide) (by kernel_rfl) (by kernel_rfl) rfl rfl (by kernel_rfl) (by kernel_rfl) (by kernel_rfl) (fun _ _ _ h => h) rfl ?_ ⟨hq0, hq1, hq2, hq3⟩ ?_
      rotate_left 1
      · (intro w' hSw; (try dsimp only at hSw); go_simp; first | done | with_reducible rfl)
      simp only [Act.put, List.setIfInBounds_toArray, List.set_cons_zero, List.set_cons_succ]
      refine' wpAnyG_takeD 2 (some 37) (v := _) (by decide) (by kernel_rfl) (by kernel_rfl) rfl rfl (by kernel_rfl) (by kernel_rfl) (by kernel_rfl) (fun _ _ _ h => h) rfl ?_ ⟨hq0, hq1, hq2, hq3⟩ ?_
      rotate_left 1
      · (intro w' hSw; (try dsimp only at hSw); go_simp; first | done | with_reducible rfl)
      simp only [Act.put, List.setIfInBounds_toArray, List.set_cons_zero, List.set_cons_succ]
      refine' wpAnyG_takeD 3 (some 38) (v := _) (by decide) (by kernel_rfl) (by kernel_rfl) rfl rfl (by kernel_rfl) (by kernel_rfl) (by kernel_rfl) (fun _ _ _ h => h) rfl ?_ ⟨hq0, hq1, hq2, hq3⟩ ?_
      rotate_left 1
      · (intro w' hSw; (try dsimp only at hSw); go_simp; first | done | with_reducible rfl)
      simp only [Act.put, List.setIfInBounds_toArray, List.set_cons_zero, List.set_cons_succ]
      refine' wpAnyG_takeD 4 (some 39) (v := _) (by decide) (by kernel_rfl) (by kernel_rfl) rfl rfl (by kernel_rfl) (by kernel_rfl) (by kernel_rfl) (fun _ _ _ h => h) rfl ?_ ⟨hq0, hq1, hq2, hq3⟩ ?_
      rotate_left 1
      · (intro w' hSw; (try dsimp only at hSw); go_simp; first | done | with_reducible rfl)
      simp only [Act.put, List.setIfInBounds_toArray, List.set_cons_zero, List.set_cons_succ]
      refine wpAnyG_takeD 5 (some 40) (v := S (cu ++ x.take m)) (by decide) (by kernel_rfl) (by kernel_rfl) rfl rfl (by kernel_rfl) (by kernel_rfl) (by kernel_rfl) (fun _ _ _ h => h) rfl ?_ ⟨hq0, hq1, hq2, hq3⟩ ?_
      · rintro w' ⟨_, _, _, hw'⟩
        exact exec_convert _ 67 9 (.tmp 39) rfl _ rfl _ _ (hw'.text (P := Tryz.prog) 67 9 Tryz.underlying67 Tryz.underlying5 Tryz.underlying9)
      simp only [Act.put, List.setIfInBounds_toArray, List.set_cons_zero, List.set_cons_succ]
      refine wpAnyG_oneD 6 (some 41) (v := .slice (some ⟨W2.heap.size, 0, none⟩) 1 1) (w' := W2.drew.alloc (.cells #[S (cu ++ x.take m)] 9)) (by kernel_rfl) rfl rfl rfl ?_ ?_ ?_
      · go_simp
      · rw [hW3]; exact fun _ => ⟨hK3.cell hq0 id, hK3.cell hq1 id, hK3.cell hq2 id, hq3.kept hK3 fun _ _ h => h⟩
      rw [hW3]
      simp only [Act.put, List.setIfInBounds_toArray, List.set_cons_zero, List.set_cons_succ]
      obtain ⟨v2, W4, happ2, hr4, hg4, hv4⟩ := RowAt.append (P := Tryz.prog) (w := W3) (h5'.kept hK3 fun _ _ h => h) (by have := hK3.size; have := hK2.size; omega) 22 22 22 _ _ 16 Tryz.underlying22 (by rfl) (by rfl) (by rfl) (by rfl) (by rfl)
        (.slice (some ⟨W2.heap.size, 0, none⟩) 1 1) 1 [S (cu ++ x.take m)]
        (Src.ofSlice W3 Tryz.underlying22 _ _ _ _ rfl (fun j u hj => by
          cases j with
          | zero => simp at hj; subst hj; rw [← hW3]; exact World.cell?_alloc_new _ _ _ 0
          | succ j => simp at hj) (by simp [Value.oneCell'])) (by simp [hol, maxLen]; omega) (by simp [hol]; omega)
      obtain ⟨a2, c2, hv2'⟩ := hr4.slice
      subst hv2'
      have hfl2 : fb < W3.heap.size ∧ w.heap.size + 3 ≤ W3.heap.size := by have := hK2.size; have := hK3.size; omega
      have horne : ∀ k, (Value.slice oa os.length oc).ownBlock = some k → w.heap.size + 1 ≠ k ∧ w.heap.size ≠ k ∧ fb ≠ k := by
        intro k hk
        have := h8' k hk
        omega
      have hk4 : ∀ (p : Addr) v, p.block < W3.heap.size → (∀ j, (Value.slice oa os.length oc).ownBlock = some j → p.block ≠ j) → W3.cell? p = some v → W4.cell? p = some v := by
        intro p v hp hn hc
        exact (World.cell?_of_block (hg4.block p.block hp (fun e => hn p.block e.symm rfl))).trans hc
      have hrne2 : ∀ k, (Value.slice a1 (cu.length + m) c1).ownBlock = some k → ¬ (Value.slice oa os.length oc).ownBlock = some k := by
        intro k hk hk2
        obtain ⟨c, hc⟩ := hq3.kind k hk
        obtain ⟨c', hc'⟩ := h5'.kind k hk2
        rw [hc] at hc'; simp at hc'
      have hr24 : RowAt W4 5 (.slice a1 (cu.length + m) c1) (bytesV (cu ++ x.take m)) :=
        (hq3.kept hK3 fun _ _ h => h).kept (S := fun k => (Value.slice oa os.length oc).ownBlock = some k) ((Kept.refl _ W3).grown hg4 fun k e => .inl e) hrne2
      have h44 : W4.heap[w.heap.size + 1]? = some (.cells #[.slice oa os.length oc] 22 (0, 0)) :=
        (hg4.block _ (by omega) (fun e => (horne _ e.symm).1 rfl)).trans (hK3.heap h4'' id)
      have hs0 : W4.cell? ⟨w.heap.size + 1, 0, none⟩ = some (.slice oa os.length oc) := by simp [World.cell?, h44]
      have hs1 : W4.frozen? ⟨w.heap.size + 1, 0, none⟩ = false := by simp [World.frozen?, h44]
      refine wpAnyG_oneD 7 (some 42) (v := .slice a2 (strsV os ++ [S (cu ++ x.take m)]).length c2) (w' := W4) (by kernel_rfl) rfl rfl rfl ?_ ?_ ?_
      · exact exec_append _ (.tmp 35) (.tmp 41) 22 22 rfl _ _ rfl rfl _ _ happ2
      · exact fun _ => ⟨hk4 _ _ (by dsimp only; omega) (fun j hj => (horne j hj).1) (hK3.cell hq0 id), hk4 _ _ (by dsimp only; omega) (fun j hj => (horne j hj).2.1) (hK3.cell hq1 id), hk4 _ _ (by dsimp only; omega) (fun j hj => (horne j hj).2.2) (hK3.cell hq2 id), hr24⟩
      simp only [Act.put, List.setIfInBounds_toArray, List.set_cons_zero, List.set_cons_succ]
      refine wpAnyG_one_skip (i := 8) (w' := W4.setCell ⟨w.heap.size + 1, 0, none⟩ (.slice a2 (strsV os ++ [S (cu ++ x.take m)]).length c2)) (by kernel_rfl) rfl rfl ?_ ?_ ?_
      · go_simp
      · exact fun h => (by cases h)
      refine wpAnyG_done (by kernel_rfl) ?_ _
      obtain ⟨W5, hW5⟩ : ∃ W5, W4.setCell ⟨w.heap.size + 1, 0, none⟩ (.slice a2 (strsV os ++ [S (cu ++ x.take m)]).length c2) = W5 := ⟨_, rfl⟩
      rw [hW5]
      simp only [NoOut, Exit.then]
      gi_wp2_with fail
      have hK5 : Kept (fun k => k = w.heap.size + 1 ∨ (Value.slice oa os.length oc).ownBlock = some k) W2 W5 := by
        rw [← hW5]
        exact ((hK3.mono fun _ h => h.elim).grown hg4 (fun k e => .inl (.inr e))).setCell (.inl (.inl rfl)) _
      have h5'' : W5.heap[fb]? = some (.cells #[.int .i64 1000, .slice a1 (cu.length + m) c1] 82 (0, 0)) := hK5.heap h1'' (fun e => e.elim (fun e => by omega) (fun e => (horne _ e).2.2 rfl))
      have hu1 : W5.cell? ⟨w.heap.size, 0, none⟩ = some (.pointer (some ⟨fb, 0, none⟩)) := hK5.cell hq1 (fun e => e.elim (fun e => by simp at e) (fun e => (horne _ e).2.1 rfl))
      have hu2 : W5.cell? ⟨fb, 1, none⟩ = some (.slice a1 (cu.length + m) c1) := by simp [World.cell?, h5'']
      have hc1 : (0 : Int) ≤ c1 := by omega
      have hu3 : W5.frozen? ⟨fb, 1, none⟩ = false := by simp [World.frozen?, h5'']
      refine wpIn_region_heldR (fun w' => w'.cell? ⟨w.heap.size, 0, none⟩ = some (.pointer (some ⟨fb, 0, none⟩)) ∧ w'.cell? ⟨fb, 1, none⟩ = some (.slice a1 (cu.length + m) c1)) 8 (by kernel_rfl) (by kernel_rfl) ?_
      simp only [size_list, Array.replicate_succ, Array.replicate_zero, List.push_toArray, List.nil_append, List.cons_append, List.size_toArray, List.length_cons, List.length_nil, Nat.reduceAdd]
      refine' wpAnyG_takeD 0 (some 43) (v := _) (by decide) (by kernel_rfl) (by kernel_rfl) rfl rfl (by kernel_rfl) (by kernel_rfl) (by kernel_rfl) (fun _ _ _ h => h) rfl ?_ ⟨hu1, hu2⟩ ?_
      rotate_left 1
      · (intro w' hSw; (try dsimp only at hSw); go_simp; first | done | with_reducible rfl)
      simp only [Act.put, List.setIfInBounds_toArray, List.set_cons_zero, List.set_cons_succ]
      refine' wpAnyG_takeD 1 (some 44) (v := _) (by decide) (by kernel_rfl) (by kernel_rfl) rfl rfl (by kernel_rfl) (by kernel_rfl) (by kernel_rfl) (fun _ _ _ h => h) rfl ?_ ⟨hu1, hu2⟩ ?_
      rotate_left 1
      · (intro w' hSw; (try dsimp only at hSw); go_simp; first | done | with_reducible rfl)
      simp only [Act.put, List.setIfInBounds_toArray, List.set_cons_zero, List.set_cons_succ]
      refine' wpAnyG_takeD 2 (some 45) (v := _) (by decide) (by kernel_rfl) (by kernel_rfl) rfl rfl (by kernel_rfl) (by kernel_rfl) (by kernel_rfl) (fun _ _ _ h => h) rfl ?_ ⟨hu1, hu2⟩ ?_
      rotate_left 1
      · (intro w' hSw; (try dsimp only at hSw); go_simp; first | done | with_reducible rfl)
      simp only [Act.put, List.setIfInBounds_toArray, List.set_cons_zero, List.set_cons_succ]
      refine' wpAnyG_takeD 3 (some 46) (v := _) (by decide) (by kernel_rfl) (by kernel_rfl) rfl rfl (by kernel_rfl) (by kernel_rfl) (by kernel_rfl) (fun _ _ _ h => h) rfl ?_ ⟨hu1, hu2⟩ ?_
      rotate_left 1
      · (intro w' hSw; (try dsimp only at hSw); go_simp; first | done | with_reducible rfl)
      simp only [Act.put, List.setIfInBounds_toArray, List.set_cons_zero, List.set_cons_succ]
      refine' wpAnyG_takeD 4 (some 47) (v := _) (by decide) (by kernel_rfl) (by kernel_rfl) rfl rfl (by kernel_rfl) (by kernel_rfl) (by kernel_rfl) (fun _ _ _ h => h) rfl ?_ ⟨hu1, hu2⟩ ?_
      rotate_left 1
      · (intro w' hSw; (try dsimp only at hSw); go_simp; first | done | with_reducible rfl)
      simp only [Act.put, List.setIfInBounds_toArray, List.set_cons_zero, List.set_cons_succ]
      refine wpAnyG_oneD 5 (some 48) (v := .slice a1 0 c1) (w' := W5.drew) (by kernel_rfl) rfl rfl rfl ?_ ?_ ?_
      · go_simp
      · exact fun _ => ⟨hu1, hu2⟩
      simp only [Act.put, List.setIfInBounds_toArray, List.set_cons_zero, List.set_cons_succ]
      refine' wpAnyG_takeT 6 (some 49) (v := _) (by decide) rfl rfl (by kernel_rfl) (by kernel_rfl) (by kernel_rfl) (fun _ _ _ h => h) rfl ?_ (fun _ => ⟨hu1, hu2⟩) ?_
      rotate_left 1
      · (intro w'; go_simp; first | done | with_reducible rfl)
      simp only [Act.put, List.setIfInBounds_toArray, List.set_cons_zero, List.set_cons_succ]
      refine' wpAnyG_takeT 7 (some 50) (v := _) (by decide) rfl rfl (by kernel_rfl) (by kernel_rfl) (by kernel_rfl) (fun _ _ _ h => h) rfl ?_ (fun _ => ⟨hu1, hu2⟩) ?_
      rotate_left 1
      · (intro w'; go_simp; first | done | with_reducible rfl)
      simp only [Act.put, List.setIfInBounds_toArray, List.set_cons_zero, List.set_cons_succ]
      refine wpAnyG_one_skip (i := 8) (w' := W5.drew.setCell ⟨fb, 1, none⟩ (.slice a1 0 c1)) (by kernel_rfl) rfl rfl ?_ ?_ ?_
      · go_simp
      · exact fun h => (by cases h)
      refine wpAnyG_done (by kernel_rfl) ?_ _
      obtain ⟨W6, hW6⟩ : ∃ W6, W5.drew.setCell ⟨fb, 1, none⟩ (.slice a1 0 c1) = W6 := ⟨_, rfl⟩
      rw [hW6]
      simp only [NoOut, Exit.then]
      gi_wp2_with fail
      have hK6 : Kept (fun k => (k = w.heap.size + 1 ∨ (Value.slice oa os.length oc).ownBlock = some k) ∨ k = fb) W2 W6 := by
        rw [← hW6]
        exact (hK5.drew.mono fun k h => .inl (.inl h)).setCell (.inl (.inr rfl)) _
      have hb6 : ∀ k, k ≠ fb → W6.heap[k]? = W5.heap[k]? := fun k hk => by rw [← hW6]; exact Below.heap_setCell _ _ _ _ hk
      have hstep : stepL (cu, os) x = ([], os ++ [cu ++ x.take m]) := by simp [stepL, HB.out, hm]
      have hsz5 : W2.heap.size ≤ W5.heap.size := hK5.size
      have h45 : W5.heap[w.heap.size + 1]? = some (.cells #[.slice a2 (strsV os ++ [S (cu ++ x.take m)]).length c2] 22 (0, 0)) := by
        rw [← hW5]; exact (heap_set h44 _).trans rfl
      have hr45 : RowAt W5 9 (.slice a2 (strsV os ++ [S (cu ++ x.take m)]).length c2) (strsV os ++ [S (cu ++ x.take m)]) := by
        rw [← hW5]
        refine hr4.heap fun k hk => Below.heap_setCell _ _ _ _ ?_
        rintro rfl
        obtain ⟨c, hc⟩ := hr4.kind _ hk
        rw [h44] at hc; simp at hc
      have hr15 : RowAt W5 5 (.slice a1 (cu.length + m) c1) (bytesV (cu ++ x.take m)) := hq3.kept hK5 fun k hk hq => by
        rcases hq with rfl | hq
        · obtain ⟨c, hc⟩ := hq3.kind _ hk
          rw [h4''] at hc; simp at hc
        · exact hrne2 k hk hq
      have hKW : Kept (fun k => (k = fb ∨ (Value.slice ra cu.length rc).ownBlock = some k) ∨ k = w.heap.size + 1 ∨ (Value.slice oa os.length oc).ownBlock = some k) W W6 := by
        refine (hK2.mono fun k h => .inl (.inl h)).trans (hK6.mono ?_)
        rintro k ((h | h) | h)
        · exact .inl (.inr (.inl h))
        · exact .inl (.inr (.inr h))
        · exact .inl (.inl (.inl h))
      refine fin W6 hKW ?_ _
      refine ⟨.slice a1 0 c1, .slice a2 (strsV os ++ [S (cu ++ x.take m)]).length c2, ?_, ?_, ?_, ?_, ?_, ?_, fun k hk => hown1 k ((own_len ..).trans hk), ?_, ?_⟩
      · rw [← hW6]; exact (heap_set (w := W5.drew) h5'' _).trans rfl
      · rw [hfold, hstep]
        refine (hr15.zero).heap fun k hk => hb6 k ?_
        rintro rfl
        obtain ⟨c, hc⟩ := hr15.kind _ ((own_len ..).trans hk)
        rw [h5''] at hc; simp at hc
      · rw [hb6 _ (by omega)]
        exact hK5.heap h3'' (fun e => e.elim (fun e => by omega) (fun e => (horne _ e).2.1 rfl))
      · rw [hb6 _ (by omega)]; exact h45
      · rw [hfold, hstep]
        have : strsV (os ++ [cu ++ x.take m]) = strsV os ++ [S (cu ++ x.take m)] := by simp [strsV]
        rw [this]
        refine hr45.heap fun k hk => hb6 k ?_
        rintro rfl
        obtain ⟨c, hc⟩ := hr45.kind _ hk
        rw [h5''] at hc; simp at hc
      · refine h6.trans' hKW ?_
        rintro i (h | h | h)
        · exact hS1 i h
        · exact .inr (by omega)
        · exact .inr (by have := h8' i h; omega)
      · intro k hk
        rcases hv4 k hk with q | q
        · exact h8' k q
        · omega
      · have := hK6.size
        have := hK2.size
        omega
  · intro D W hD hI hK
    obtain ⟨rv', ov, h1, h2, h3, h4, h5, h6, h7, h8', h9⟩ := hI
    have hq0 : W.cell? ⟨w.heap.size + 1, 0, none⟩ = some ov := by simp [World.cell?, h4]
    gi_wp2_with fail
    refine ⟨by simp, .inl ⟨_, _, rfl, run_takeDeferred hK, ?_⟩⟩
    have hWD : ∀ (k : Nat) (c : Array Value) (ty : TypeId) (f : Nat × Nat), W.heap[k]? = some (Obj.cells c ty f) → (W.putObj D (Obj.deferred none)).heap[k]? = W.heap[k]? := by
      intro k c ty f hk
      refine World.putObj_heap_other ?_
      rintro rfl
      rw [hK] at hk; cases hk
    refine ⟨_, results_tmp rfl _ _ _, rv', ov, rfl, (hWD _ _ _ _ h1).trans h1, h2.heap (fun k hk => ?_), h5.heap (fun k hk => ?_), ?_, fun k hk => (h7 k hk).imp id (fun h => by omega), fun k hk => by have := h8' k hk; omega⟩
    · obtain ⟨c, hc⟩ := h2.kind k hk; exact hWD _ _ _ _ hc
    · obtain ⟨c, hc⟩ := h5.kind k hk; exact hWD _ _ _ _ hc
    · exact h6.grown (grownBy_putObj' _ D _) (fun k e => by cases e; exact .inr (by omega))
end Go.Proofs.YtapanjfheddfnaaGreatDoor
