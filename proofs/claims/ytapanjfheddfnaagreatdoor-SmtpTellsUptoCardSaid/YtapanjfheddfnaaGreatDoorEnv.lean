/- Mail. -/
import Derived.Test.YtapanjfheddfnaaGreatDoorApi
import Derived.Test.YtapanjfheddfnaaGreatDoorLine
import Derived.Test.YtapanjfheddfnaaGreatDoorBridge
namespace Go.Proofs.YtapanjfheddfnaaGreatDoor
open Go.RowKit Go.Shelf
attribute [local go_sem high] ext_to ext_from
attribute [local go_sem] ext_list app_list size_list

theorem clone_calls (w : World) (v : Value) (l : List Bs) (h : RowAt w 9 v (strsV l)) (hl : l.length ≤ 1000000) (h8 : 8 ≤ w.heap.size) :
    Calls Tryz.prog 43 #[v] w fun e w' => ∃ v', e = .returned v' ∧ RowAt w' 9 v' (strsV l) ∧ (∀ k, v'.ownBlock = some k → w.heap.size ≤ k) ∧ Below w.heap.size w w' := by
  have own : ∀ {v' : Value} {n : Nat} {xs : List Value} {w' : World}, w'.ownsRow w.heap.size 9 1 v' n xs → ∀ k, v'.ownBlock = some k → w.heap.size ≤ k := by
    rintro v' n xs w' ⟨_, ⟨rfl, _⟩ | ⟨g, cap, cur, rfl, hb, _⟩⟩ k hk
    · cases hk
    · cases hk; exact hb
  by_cases h0 : l = []
  · subst h0
    rcases h with ⟨rfl, _⟩ | ⟨g, off, cap, cur, rfl, _⟩
    · refine (Tryz.slices_Clone_string_nil 0 0 w).mono ?_
      rintro e w' ⟨rfl, rfl⟩
      exact ⟨_, rfl, RowAt.nil _ _, fun k hk => (by cases hk), Below.refl _ _⟩
    · refine (Tryz.slices_Clone_string_zero ⟨g, off, none⟩ cap w).mono ?_
      rintro e w' ⟨v', rfl, ho, _, hb⟩
      exact ⟨v', rfl, RowAt.of_owns ho h8, own ho, hb⟩
  · obtain ⟨g, off, cap, rfl, hc⟩ := h.cells (by simpa [strsV] using h0)
    rw [strsV_len]
    refine (Tryz.slices_Clone_string g off l.length cap (l.map fun y => (⟨y.toArray⟩ : ByteArray)) w (by simp) (by omega) (fun j hj => ?_)).mono ?_
    · have hj' : j < l.length := by simpa using hj
      have := hc j (S l[j]) (by simp [strsV, hj'])
      rw [this]
      simp [List.getD_eq_getElem?_getD, hj']
    · rintro e w' ⟨v', rfl, ho, _, hb⟩
      rw [List.take_of_length_le (by simp)] at ho
      have e2 : (l.map fun y => (⟨y.toArray⟩ : ByteArray)).map Value.string = strsV l := by simp [strsV]
      rw [e2] at ho
      exact ⟨v', rfl, RowAt.of_owns ho h8, own ho, hb⟩

set_option maxHeartbeats 4000000 in
set_option maxRecDepth 100000 in
theorem env_calls (w : World) (b : Nat) (s : Sess) (p : SP) (F : Nat → Prop) (h : SessAt w b s p F) (G : Glob w) (hw : s.waits = false) :
    Calls Tryz.prog 19 #[.pointer (some ⟨b, 0, none⟩)] w fun e w' => e = .returned (.agg #[S [], .slice none 0 0, S []]) ∧ Below w.heap.size w w' := by
  have c8 : w.cell? ⟨b, 8, none⟩ = some (.bool false) := by rw [← hw]; exact h.cell 8
  have hltb : b < w.heap.size := (h.blk b h.b8).2
  go_enter Tryz.func19, Tryz.ntmps19
  go_wp2
  have hn := heap_alloc_new w (.cells #[.string ⟨#[]⟩, .slice none 0 0, .string ⟨#[]⟩] 35)
  refine bodyPost_ret (results_cell_row rfl _ _ w.heap.size 35 _ (0, 0) _ rfl hn Tryz.underlying35 rfl (by rfl)) rfl ?_
  exact ⟨rfl, (Below.refl _ _).alloc (Nat.le_refl _) _⟩

theorem exec_store_row {P : Program} (w : World) {o : Oper} {a : Act} (ty : TypeId) (x y : Operand) (ho : o.op = .store ty x y)
    (g : Nat) (cells : Array Value) (hx : a.eval x = .pointer (some ⟨g, 0, none⟩)) (hy : a.eval y = .agg cells)
    (t : TypeId) (old : Array Value) (hg : w.heap[g]? = some (.cells old t (0, 0))) (hi : (P.info? ty).map (·.size) = some cells.size)
    (hold : old.size = cells.size) (h1 : cells.all (·.oneCell') = true) : (execOp a.eval o).run P w = .ok .skip (w.setRow g cells) := by
  unfold execOp
  simp only [ho, hx, hy, Instr.storeAt, Instr.sureAddr, Sem.run_bind, Sem.run_pure, Result.andThen_ok, run_storeVar_row w g t ty old cells hg hi hold h1]
set_option maxHeartbeats 4000000 in
set_option maxRecDepth 100000 in
/-- Of a message that waits: its sender, a copy of its recipients, its bytes. -/
theorem env_waits (w : World) (b : Nat) (s : Sess) (p : SP) (F : Nat → Prop) (h : SessAt w b s p F) (G : Glob w) (hw : s.waits = true) (a y : Bs) (hs : s.sender = some a) (hy : s.body = some y) (hr : s.rcp.length ≤ 1000000) :
    Calls Tryz.prog 19 #[.pointer (some ⟨b, 0, none⟩)] w fun e w' => (∃ v', e = .returned (.agg #[S a, v', S y]) ∧ RowAt w' 9 v' (strsV s.rcp) ∧ (∀ k, v'.ownBlock = some k → w.heap.size ≤ k)) ∧ SessAt w' b s p F ∧ Kept F w w' := by
  have hltb : b < w.heap.size := (h.blk b h.b8).2
  obtain ⟨sb, hsv, h8s, hbx⟩ : ∃ sb, p.sv = .pointer (some ⟨sb, 0, none⟩) ∧ 8 ≤ sb ∧ Boxed w sb 9 (S a) := by have := h.sender; rw [hs] at this; exact this
  have H := Lib.hid h
  obtain ⟨w1, hw1⟩ : ∃ w1, w.alloc (.cells #[.string ⟨#[]⟩, .slice none 0 0, .string ⟨#[]⟩] 35) = w1 := ⟨_, rfl⟩
  have hb1 : Below w.heap.size w w1 := by rw [← hw1]; exact (Below.refl _ _).alloc (Nat.le_refl _) _
  have z1 : w1.heap.size = w.heap.size + 1 := by rw [← hw1]; simp
  have hn : w1.heap[w.heap.size]? = some (.cells #[.string ⟨#[]⟩, .slice none 0 0, .string ⟨#[]⟩] 35 (0, 0)) := by rw [← hw1]; exact heap_alloc_new _ _
  have h1 := h.below hb1
  have hd1 : Below w1.heap.size w1 w1.drew := (Below.refl _ _).drew
  have h1d := h1.below hd1
  have z8 := G.sz
  have c8 : w1.cell? ⟨b, 8, none⟩ = some (.bool true) := by rw [← hw]; exact h1.cell 8
  obtain ⟨bb, hbv, hbt⟩ : ∃ bb, p.bv = .pointer (some ⟨bb, 0, none⟩) ∧ BuiltAt w1.drew bb p.yv y := by have := h1d.body; rw [hy] at this; exact this
  have c4 : w1.drew.cell? ⟨b, 4, none⟩ = some (.pointer (some ⟨sb, 0, none⟩)) := by rw [← hsv]; exact h1d.cell 4
  have c5 : w1.drew.cell? ⟨b, 5, none⟩ = some p.tv := h1d.cell 5
  have c6 : w1.drew.cell? ⟨b, 6, none⟩ = some (.pointer (some ⟨bb, 0, none⟩)) := by rw [← hbv]; exact h1d.cell 6
  have hsbF : F sb := h.foot sb (.inr (.inr (.inr (.inr (.inr (.inl (by rw [hsv]; rfl)))))))
  have cs : w1.drew.cell? ⟨sb, 0, none⟩ = some (S a) := by
    have : w1.drew.heap[sb]? = some (.cells #[S a] 9 (0, 0)) := (hb1.block sb (h.blk sb hsbF).2).trans hbx
    simp [World.cell?, this]
  obtain ⟨ta, tc, htv⟩ := h.rcp.slice
  have e43 : ∀ args w, (callFunc 43 args).run Tryz.prog w = .ok (.enter 43 args) w := enters_of Tryz.func43 (by kernel_rfl) rfl
  have e39 : ∀ args w, (callFunc 39 args).run Tryz.prog w = .ok (.enter 39 args) w := enters_of Tryz.func39 (by kernel_rfl) rfl
  rw [htv] at c5
  go_enter Tryz.func19, Tryz.ntmps19
  go_wp2_with fail
  refine wp_region_heldG (fun w' => w'.cell? ⟨b, 4, none⟩ = some (.pointer (some ⟨sb, 0, none⟩)) ∧ w'.cell? ⟨b, 5, none⟩ = some (.slice ta (strsV s.rcp).length tc) ∧ w'.cell? ⟨b, 6, none⟩ = some (.pointer (some ⟨bb, 0, none⟩)) ∧ w'.cell? ⟨sb, 0, none⟩ = some (S a)) 17 (by kernel_rfl) ?_
  simp only [size_list, Array.replicate_succ, Array.replicate_zero, List.push_toArray, List.nil_append, List.cons_append, List.size_toArray, List.length_cons, List.length_nil, Nat.reduceAdd]
  refine' wpAnyG_takeD 0 (some 9) (v := _) (by decide) (by kernel_rfl) (by kernel_rfl) rfl rfl (by kernel_rfl) (by kernel_rfl) (by kernel_rfl) (fun _ _ _ h => h) rfl ?_ ⟨c4, c5, c6, cs⟩ ?_
  rotate_left 1
  · (intro w' hSw; (try dsimp only at hSw); go_simp; first | done | with_reducible rfl)
  simp only [Act.put, List.setIfInBounds_toArray, List.set_cons_zero, List.set_cons_succ]
  refine' wpAnyG_takeD 1 (some 10) (v := _) (by decide) (by kernel_rfl) (by kernel_rfl) rfl rfl (by kernel_rfl) (by kernel_rfl) (by kernel_rfl) (fun _ _ _ h => h) rfl ?_ ⟨c4, c5, c6, cs⟩ ?_
  rotate_left 1
  · (intro w' hSw; (try dsimp only at hSw); go_simp; first | done | with_reducible rfl)
  simp only [Act.put, List.setIfInBounds_toArray, List.set_cons_zero, List.set_cons_succ]
  refine' wpAnyG_takeD 2 (some 11) (v := _) (by decide) (by kernel_rfl) (by kernel_rfl) rfl rfl (by kernel_rfl) (by kernel_rfl) (by kernel_rfl) (fun _ _ _ h => h) rfl ?_ ⟨c4, c5, c6, cs⟩ ?_
  rotate_left 1
  · (intro w' hSw; (try dsimp only at hSw); go_simp; first | done | with_reducible rfl)
  simp only [Act.put, List.setIfInBounds_toArray, List.set_cons_zero, List.set_cons_succ]
  refine' wpAnyG_takeD 3 (some 12) (v := _) (by decide) (by kernel_rfl) (by kernel_rfl) rfl rfl (by kernel_rfl) (by kernel_rfl) (by kernel_rfl) (fun _ _ _ h => h) rfl ?_ ⟨c4, c5, c6, cs⟩ ?_
  rotate_left 1
  · (intro w' hSw; (try dsimp only at hSw); go_simp; first | done | with_reducible rfl)
  simp only [Act.put, List.setIfInBounds_toArray, List.set_cons_zero, List.set_cons_succ]
  refine' wpAnyG_takeD 4 (some 13) (v := _) (by decide) (by kernel_rfl) (by kernel_rfl) rfl rfl (by kernel_rfl) (by kernel_rfl) (by kernel_rfl) (fun _ _ _ h => h) rfl ?_ ⟨c4, c5, c6, cs⟩ ?_
  rotate_left 1
  · (intro w' hSw; (try dsimp only at hSw); go_simp; first | done | with_reducible rfl)
  simp only [Act.put, List.setIfInBounds_toArray, List.set_cons_zero, List.set_cons_succ]
  refine' wpAnyG_takeD 5 (some 14) (v := _) (by decide) (by kernel_rfl) (by kernel_rfl) rfl rfl (by kernel_rfl) (by kernel_rfl) (by kernel_rfl) (fun _ _ _ h => h) rfl ?_ ⟨c4, c5, c6, cs⟩ ?_
  rotate_left 1
  · (intro w' hSw; (try dsimp only at hSw); go_simp; first | done | with_reducible rfl)
  simp only [Act.put, List.setIfInBounds_toArray, List.set_cons_zero, List.set_cons_succ]
  refine' wpAnyG_takeD 6 (some 15) (v := _) (by decide) (by kernel_rfl) (by kernel_rfl) rfl rfl (by kernel_rfl) (by kernel_rfl) (by kernel_rfl) (fun _ _ _ h => h) rfl ?_ ⟨c4, c5, c6, cs⟩ ?_
  rotate_left 1
  · (intro w' hSw; (try dsimp only at hSw); go_simp; first | done | with_reducible rfl)
  simp only [Act.put, List.setIfInBounds_toArray, List.set_cons_zero, List.set_cons_succ]
  refine' wpAnyG_takeD 7 (some 16) (v := _) (by decide) (by kernel_rfl) (by kernel_rfl) rfl rfl (by kernel_rfl) (by kernel_rfl) (by kernel_rfl) (fun _ _ _ h => h) rfl ?_ ⟨c4, c5, c6, cs⟩ ?_
  rotate_left 1
  · (intro w' hSw; (try dsimp only at hSw); go_simp; first | done | with_reducible rfl)
  simp only [Act.put, List.setIfInBounds_toArray, List.set_cons_zero, List.set_cons_succ]
  refine' wpAnyG_takeD 8 (some 17) (v := _) (by decide) (by kernel_rfl) (by kernel_rfl) rfl rfl (by kernel_rfl) (by kernel_rfl) (by kernel_rfl) (fun _ _ _ h => h) rfl ?_ ⟨c4, c5, c6, cs⟩ ?_
  rotate_left 1
  · (intro w' hSw; (try dsimp only at hSw); go_simp; first | done | with_reducible rfl)
  simp only [Act.put, List.setIfInBounds_toArray, List.set_cons_zero, List.set_cons_succ]
  refine' wpAnyG_takeD 9 (some 18) (v := _) (by decide) (by kernel_rfl) (by kernel_rfl) rfl rfl (by kernel_rfl) (by kernel_rfl) (by kernel_rfl) (fun _ _ _ h => h) rfl ?_ ⟨c4, c5, c6, cs⟩ ?_
  rotate_left 1
  · (intro w' hSw; (try dsimp only at hSw); go_simp; first | done | with_reducible rfl)
  simp only [Act.put, List.setIfInBounds_toArray, List.set_cons_zero, List.set_cons_succ]
  refine' wpAnyG_takeD 11 (some 20) (v := _) (by decide) (by kernel_rfl) (by kernel_rfl) rfl rfl (by kernel_rfl) (by kernel_rfl) (by kernel_rfl) (fun _ _ _ h => h) rfl ?_ ⟨c4, c5, c6, cs⟩ ?_
  rotate_left 1
  · (intro w' hSw; (try dsimp only at hSw); go_simp; first | done | with_reducible rfl)
  simp only [Act.put, List.setIfInBounds_toArray, List.set_cons_zero, List.set_cons_succ]
  refine' wpAnyG_takeD 12 (some 21) (v := _) (by decide) (by kernel_rfl) (by kernel_rfl) rfl rfl (by kernel_rfl) (by kernel_rfl) (by kernel_rfl) (fun _ _ _ h => h) rfl ?_ ⟨c4, c5, c6, cs⟩ ?_
  rotate_left 1
  · (intro w' hSw; (try dsimp only at hSw); go_simp; first | done | with_reducible rfl)
  simp only [Act.put, List.setIfInBounds_toArray, List.set_cons_zero, List.set_cons_succ]
  refine' wpAnyG_takeD 13 (some 22) (v := _) (by decide) (by kernel_rfl) (by kernel_rfl) rfl rfl (by kernel_rfl) (by kernel_rfl) (by kernel_rfl) (fun _ _ _ h => h) rfl ?_ ⟨c4, c5, c6, cs⟩ ?_
  rotate_left 1
  · (intro w' hSw; (try dsimp only at hSw); go_simp; first | done | with_reducible rfl)
  simp only [Act.put, List.setIfInBounds_toArray, List.set_cons_zero, List.set_cons_succ]
  refine' wpAnyG_takeD 14 (some 23) (v := _) (by decide) (by kernel_rfl) (by kernel_rfl) rfl rfl (by kernel_rfl) (by kernel_rfl) (by kernel_rfl) (fun _ _ _ h => h) rfl ?_ ⟨c4, c5, c6, cs⟩ ?_
  rotate_left 1
  · (intro w' hSw; (try dsimp only at hSw); go_simp; first | done | with_reducible rfl)
  simp only [Act.put, List.setIfInBounds_toArray, List.set_cons_zero, List.set_cons_succ]
  refine wpAnyG_call 10 (some 19) (f := 43) (args := #[.slice ta (strsV s.rcp).length tc]) (by kernel_rfl) rfl rfl rfl ?_ ?_
  · go_simp
  refine (clone_calls w1.drew _ s.rcp (by rw [← htv]; exact h1d.rcp) hr (by show 8 ≤ w1.heap.size; omega)).mono ?_
  rintro e w2 ⟨v', rfl, hr2, hv2, hb2⟩
  have h2 := h1d.below hb2
  have G2 : BuiltAt w2 bb p.yv y := by
    have := h2.body; rw [hy] at this
    obtain ⟨b', e, hb'⟩ := this
    rw [hbv] at e; cases e; exact hb'
  have kp2 : ∀ (q : Addr) (u : Value), w1.drew.cell? q = some u → w2.cell? q = some u := fun q u hq => (World.cell?_of_block (hb2.block q.block (World.block_lt_of_cell? _ q hq))).trans hq
  refine ⟨v', rfl, fun _ => ⟨kp2 _ _ c4, kp2 _ _ c5, kp2 _ _ c6, kp2 _ _ cs⟩, ?_⟩
  simp only [Act.put, List.setIfInBounds_toArray, List.set_cons_zero, List.set_cons_succ]
  refine wpAnyG_call 15 (some 24) (f := 39) (args := #[.pointer (some ⟨bb, 0, none⟩)]) (by kernel_rfl) rfl rfl rfl ?_ ?_
  · go_simp
  refine (string_calls w2 bb p.yv y G2).mono ?_
  rintro e w3 ⟨rfl, hb3, hk3⟩
  have nrow : ∀ (k : Nat) (o : Obj), w2.heap[k]? = some o → (∀ c fz, o ≠ Obj.cells c 5 fz) → ¬ p.yv.ownBlock = some k := by
    intro k o hko hne e
    obtain ⟨_, c, fz, hc⟩ := G2.2.2.kind k e
    rw [hc] at hko
    exact hne c fz (Option.some.inj hko).symm
  have zd : w1.drew.heap.size = w1.heap.size := rfl
  have z2 := hb2.size
  have z3 := hk3.size
  have hbs2 : w2.heap[sb]? = some (.cells #[S a] 9 (0, 0)) := (hb2.block sb (by have := (h.blk sb hsbF).2; omega)).trans ((hb1.block sb (h.blk sb hsbF).2).trans hbx)
  have hn2 : w2.heap[w.heap.size]? = some (.cells #[.string ⟨#[]⟩, .slice none 0 0, .string ⟨#[]⟩] 35 (0, 0)) := (hb2.block _ (by omega)).trans hn
  have nb := nrow b _ h2.hs (by simp)
  have ns := nrow sb _ hbs2 (by simp)
  have hn3 : w3.heap[w.heap.size]? = some (.cells #[.string ⟨#[]⟩, .slice none 0 0, .string ⟨#[]⟩] 35 (0, 0)) := (hk3.block _ (by omega) (nrow _ _ hn2 (by simp))).trans hn2
  have h3 : SessAt w3 b s p F := by
    have hsame : ({ s with body := some y } : Sess) = s := by cases s; simp_all
    have hw := h2.wrote (by omega) bb hbv y G2 (hk3.mono fun k q => .inl (.inr q)) p.yv y hb3 (fun k q => .inl q)
    rw [hsame] at hw
    exact ⟨h.foot, fun k q => ⟨(h.blk k q).1, by have := (h.blk k q).2; omega⟩, hw.hs, hw.hf, hw.rest, hw.kept, hw.rcp, hw.sender, hw.body, h.sep⟩
  have hr3 : RowAt w3 9 v' (strsV s.rcp) := hr2.kept hk3 fun k q => by
    obtain ⟨c, hc⟩ := hr2.kind k q
    exact nrow k _ hc (by simp)
  have hw3 : Kept F w w3 := by
    refine ((Kept.of_below (below_then' hb1 (below_then' hd1 hb2)))).trans' (S' := fun k => p.yv.ownBlock = some k) hk3 fun k q => .inl ?_
    exact h.foot k (.inr (.inr (.inr (.inr (.inr (.inr (.inr q)))))))
  refine ⟨S y, rfl, fun _ => ⟨hk3.cell (kp2 _ _ c4) nb, hk3.cell (kp2 _ _ c5) nb, hk3.cell (kp2 _ _ c6) nb, hk3.cell (kp2 _ _ cs) ns⟩, ?_⟩
  have d4 := hk3.cell (kp2 _ _ c4) nb
  have d5 := hk3.cell (kp2 _ _ c5) nb
  have d6 := hk3.cell (kp2 _ _ c6) nb
  have ds := hk3.cell (kp2 _ _ cs) ns
  simp only [Act.put, List.setIfInBounds_toArray, List.set_cons_zero, List.set_cons_succ]
  refine wpAnyG_oneD 16 (some 25) (v := .agg #[S a, v', S y]) (w' := w3) (by kernel_rfl) rfl rfl rfl ?_ (fun _ => ⟨d4, d5, d6, ds⟩) ?_
  · obtain ⟨va, vc, hva⟩ := hr3.slice
    rw [hva]
    go_simp
  simp only [Act.put, List.setIfInBounds_toArray, List.set_cons_zero, List.set_cons_succ]
  refine wpAnyG_one_skip (i := 17) (w' := w3.setRow w.heap.size #[S a, v', S y]) (by kernel_rfl) rfl rfl ?_ ?_ ?_
  · obtain ⟨va, vc, hva⟩ := hr3.slice
    rw [hva]
    exact exec_store_row _ 35 (.tmp 2) (.tmp 25) rfl w.heap.size _ rfl rfl 35 _ hn3 (by rfl) rfl (by simp [Value.oneCell'])
  · exact fun h => (by cases h)
  refine wpAnyG_done (by kernel_rfl) ?_ _
  have hn4 := setRow_heap w3 w.heap.size _ #[S a, v', S y] 35 _ hn3
  have hk4 : Kept (fun k => k = w.heap.size) w3 (w3.setRow w.heap.size #[S a, v', S y]) := ⟨rfl, rfl, rfl, by simp, fun k _ hk => setRow_other w3 _ k _ hk⟩
  have h4 : SessAt (w3.setRow w.heap.size #[S a, v', S y]) b s p F := h3.frame hk4 fun k q e => by have := (h.blk k q).2; omega
  have hv4 : RowAt (w3.setRow w.heap.size #[S a, v', S y]) 9 v' (strsV s.rcp) := hr3.kept hk4 fun k q => by have := hv2 k q; omega
  have HH := Lib.hid (And.intro h4 hv4)
  have HW := Lib.hid (hw3.trans' hk4 fun k q => .inr (by omega))
  clear h4 hv4 hk4
  simp only [Exit.then]
  go_wp2
  refine bodyPost_ret (results_cell_row rfl _ _ w.heap.size 35 _ (0, 0) _ rfl hn4 Tryz.underlying35 rfl (by rfl)) rfl ?_
  exact ⟨⟨v', rfl, HH.out.2, fun k q => by have := hv2 k q; omega⟩, HH.out.1, HW.out⟩
end Go.Proofs.YtapanjfheddfnaaGreatDoor
