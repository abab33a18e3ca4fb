/- The contract of Feed. -/
import Derived.Test.YtapanjfheddfnaaGreatDoorFeed
namespace Go.Proofs.YtapanjfheddfnaaGreatDoor
open Go.RowKit Go.Shelf
attribute [local go_sem high] ext_to ext_from
attribute [local go_sem] ext_list app_list size_list

/-- Between two lines. -/
def FeedR (b ob : Nat) (F : Nat → Prop) (w : World) (R : Bs × Sess) (T : Nat) (g : Nat) (wx : World) : Prop :=
  ∃ (s' : Sess) (p' : SP) (F' : Nat → Prop) (out : Bs) (v : Value), s'.kept.length = g ∧ runF g s' out = R ∧ Ok s' T ∧ out.length + 200 * g ≤ 1000000000 ∧ SessAt wx b s' p' F' ∧ BuiltAt wx ob v out ∧ (∀ k, F' k → k ≠ ob ∧ ¬ v.ownBlock = some k) ∧ (∀ k, F' k → F k ∨ w.heap.size ≤ k) ∧ Kept F w wx ∧
    w.heap.size ≤ ob ∧ (∀ k, v.ownBlock = some k → w.heap.size ≤ k)
theorem kept_le (s : Sess) : s.kept.length ≤ vol s := by
  unfold vol
  have e : s.kept.length ≤ (s.kept.map fun x => x.length + 1).sum := by
    induction s.kept with
    | nil => simp
    | cons x l ih => simp; omega
  omega

theorem feed_done {w wr w5 : World} {b ob : Nat} {s' : Sess} {p' : SP} {F F' : Nat → Prop} {v : Value} (hs : SessAt wr b s' p' F') (hd : ∀ k, F' k → k ≠ ob ∧ ¬ v.ownBlock = some k) (hF : ∀ k, F' k → F k ∨ w.heap.size ≤ k) (hk : Kept F w wr)
    (h5 : Kept (fun k => v.ownBlock = some k) wr.drew w5) (hv : ∀ k, v.ownBlock = some k → w.heap.size ≤ k) (h8 : 8 ≤ w.heap.size) (hFb : ∀ k, F k → 8 ≤ k ∧ k < w.heap.size) : Step b F w w5 s' := by
  have h5' : Kept (fun k => v.ownBlock = some k) wr w5 := ((Kept.refl _ wr).drew).trans h5
  have z := h5'.size
  refine ⟨hk.trans' h5' fun k q => .inr (hv k q), p', (hs.frame h5' fun k q => (hd k q).2).wide (fun k q => ?_) (fun k q => ?_)⟩
  · have := hs.blk k q
    exact (hF k q).imp id (fun q2 => ⟨q2, by omega⟩)
  · have zz := hk.size
    rcases q with q | q
    · have := hFb k q; omega
    · omega

theorem step_from {w w1 w2 : World} {b : Nat} {s s2 : Sess} {p : SP} {F : Nat → Prop} (h : SessAt w b s p F) (hk : Kept F w w1) (k : Step b F w1 w2 s2) (h8 : 8 ≤ w.heap.size) : Step b F w w2 s2 := by
  obtain ⟨kk, p2, h2⟩ := k
  have z := hk.size
  have z2 := kk.size
  refine ⟨hk.trans kk, p2, h2.wide (fun i q => ?_) (fun i q => ?_)⟩
  · exact q.imp id (fun q => ⟨by omega, q.2⟩)
  · rcases q with q | q
    · have := h.blk i q; omega
    · omega
theorem feedR_step {w wr w6 w7 : World} {b ob : Nat} {s' s2 : Sess} {p' : SP} {F F' : Nat → Prop} {v v7 : Value} {o2 : Bs} {R : Bs × Sess} {T g : Nat} (hs : SessAt wr b s' p' F') (hd : ∀ k, F' k → k ≠ ob ∧ ¬ v.ownBlock = some k) (hF : ∀ k, F' k → F k ∨ w.heap.size ≤ k) (hk : Kept F w wr)
    (hv : ∀ k, v.ownBlock = some k → w.heap.size ≤ k) (hst : Step b F' wr w6 s2) (hb7 : BuiltAt w7 ob v7 o2) (hk7 : Kept (fun k => k = ob ∨ v.ownBlock = some k) w6 w7) (hv7 : ∀ k, v7.ownBlock = some k → v.ownBlock = some k ∨ w6.heap.size ≤ k)
    (hg : s2.kept.length = g) (hr : runF g s2 o2 = R) (hok : Ok s2 T) (hout : o2.length + 200 * g ≤ 1000000000) (hob : w.heap.size ≤ ob) (hobl : ob < wr.heap.size) (hvl : ∀ k, v.ownBlock = some k → k < wr.heap.size) : FeedR b ob F w R T g w7 := by
  obtain ⟨k6, p6, h6⟩ := hst
  have z1 := hk.size
  have z6 := k6.size
  have z7 := hk7.size
  have hd6 : ∀ k, Fresh F' wr w6 k → ¬ (k = ob ∨ v.ownBlock = some k) := by
    rintro k q (rfl | e)
    · rcases q with q | q
      · exact (hd k q).1 rfl
      · omega
    · rcases q with q | q
      · exact (hd k q).2 e
      · have := hvl k e; omega
  refine ⟨s2, p6, Fresh F' wr w6, o2, v7, hg, hr, hok, hout, h6.frame hk7 hd6, hb7, fun k q => ⟨fun e => hd6 k q (.inl e), fun e => ?_⟩, fun k q => ?_, ?_, hob, fun k e => ?_⟩
  · rcases hv7 k e with q2 | q2
    · exact hd6 k q (.inr q2)
    · have := (h6.blk k q).2; omega
  · rcases q with q | q
    · exact hF k q
    · exact .inr (by omega)
  · exact (hk.trans' k6 (fun i q => hF i q)).trans' hk7 (fun i q => .inr (q.elim (fun q => by omega) (hv i)))
  · rcases hv7 k e with q | q
    · exact hv k q
    · omega
set_option maxHeartbeats 4000000 in
set_option maxRecDepth 100000 in
theorem feed_calls (w : World) (b : Nat) (s : Sess) (p : SP) (F : Nat → Prop) (h : SessAt w b s p F) (G : Glob w) (T : Nat) (hok : Ok s T) (chunk : Bs) (hT : T + 2 * chunk.length ≤ 1000000) :
    Calls Tryz.prog 14 #[.pointer (some ⟨b, 0, none⟩), S chunk] w fun e w' => e = .returned (.tuple #[S (feedS s chunk).1, .bool (feedS s chunk).2.waits]) ∧ Step b F w w' (feedS s chunk).2 := by
  have H := Lib.hid h
  have hkl : s.kept.length ≤ T := by
    have := hok.vol
    have := kept_le s
    omega
  obtain ⟨ka, kc, hkv⟩ := h.kept.slice
  rw [strsV_len] at hkv
  have hpl : (pushL s.rest chunk).2.length ≤ chunk.length := by
    have e1 := foldL_len (linesL chunk) (s.rest, [])
    have e2 := linesL_len chunk
    have e3 : ([] : List Bs).length = 0 := rfl
    unfold pushL
    simp only at e1
    omega
  obtain ⟨pl, hpl0⟩ : ∃ pl, pushL s.rest chunk = pl := ⟨_, rfl⟩
  rw [hpl0] at hpl
  have HPL := Lib.hid hpl0
  clear hpl0
  have g0 : w.drew.cell? ⟨b, 2, none⟩ = some (.slice ka s.kept.length kc) := by rw [← hkv]; exact h.cell 2
  have g1 : w.drew.cell? ⟨b, 1, none⟩ = some (.pointer (some ⟨p.fb, 0, none⟩)) := h.cell 1
  go_enter Tryz.func14, Tryz.ntmps14
  go_wp2_with fail
  refine wp_region_heldG (fun w' => w'.cell? ⟨b, 2, none⟩ = some (.slice ka s.kept.length kc) ∧ w'.cell? ⟨b, 1, none⟩ = some (.pointer (some ⟨p.fb, 0, none⟩))) 14 (by kernel_rfl) ?_
  simp only [size_list, Array.replicate_succ, Array.replicate_zero, List.push_toArray, List.nil_append, List.cons_append, List.size_toArray, List.length_cons, List.length_nil, Nat.reduceAdd]
  refine' wpAnyG_takeD 0 (some 8) (v := _) (by decide) (by kernel_rfl) (by kernel_rfl) rfl rfl (by kernel_rfl) (by kernel_rfl) (by kernel_rfl) (fun _ _ _ h => h) rfl ?_ ⟨g0, g1⟩ ?_
  rotate_left 1
  · (intro w' hSw; (try dsimp only at hSw); go_simp; first | done | with_reducible rfl)
  simp only [Act.put, List.setIfInBounds_toArray, List.set_cons_zero, List.set_cons_succ]
  refine' wpAnyG_takeD 1 (some 9) (v := _) (by decide) (by kernel_rfl) (by kernel_rfl) rfl rfl (by kernel_rfl) (by kernel_rfl) (by kernel_rfl) (fun _ _ _ h => h) rfl ?_ ⟨g0, g1⟩ ?_
  rotate_left 1
  · (intro w' hSw; (try dsimp only at hSw); go_simp; first | done | with_reducible rfl)
  simp only [Act.put, List.setIfInBounds_toArray, List.set_cons_zero, List.set_cons_succ]
  refine' wpAnyG_takeD 2 (some 10) (v := _) (by decide) (by kernel_rfl) (by kernel_rfl) rfl rfl (by kernel_rfl) (by kernel_rfl) (by kernel_rfl) (fun _ _ _ h => h) rfl ?_ ⟨g0, g1⟩ ?_
  rotate_left 1
  · (intro w' hSw; (try dsimp only at hSw); go_simp; first | done | with_reducible rfl)
  simp only [Act.put, List.setIfInBounds_toArray, List.set_cons_zero, List.set_cons_succ]
  refine' wpAnyG_takeD 3 (some 11) (v := _) (by decide) (by kernel_rfl) (by kernel_rfl) rfl rfl (by kernel_rfl) (by kernel_rfl) (by kernel_rfl) (fun _ _ _ h => h) rfl ?_ ⟨g0, g1⟩ ?_
  rotate_left 1
  · (intro w' hSw; (try dsimp only at hSw); go_simp; first | done | with_reducible rfl)
  simp only [Act.put, List.setIfInBounds_toArray, List.set_cons_zero, List.set_cons_succ]
  refine' wpAnyG_takeD 4 (some 12) (v := _) (by decide) (by kernel_rfl) (by kernel_rfl) rfl rfl (by kernel_rfl) (by kernel_rfl) (by kernel_rfl) (fun _ _ _ h => h) rfl ?_ ⟨g0, g1⟩ ?_
  rotate_left 1
  · (intro w' hSw; (try dsimp only at hSw); go_simp; first | done | with_reducible rfl)
  simp only [Act.put, List.setIfInBounds_toArray, List.set_cons_zero, List.set_cons_succ]
  refine' wpAnyG_takeD 5 (some 13) (v := _) (by decide) (by kernel_rfl) (by kernel_rfl) rfl rfl (by kernel_rfl) (by kernel_rfl) (by kernel_rfl) (fun _ _ _ h => h) rfl ?_ ⟨g0, g1⟩ ?_
  rotate_left 1
  · (intro w' hSw; (try dsimp only at hSw); go_simp; first | done | with_reducible rfl)
  simp only [Act.put, List.setIfInBounds_toArray, List.set_cons_zero, List.set_cons_succ]
  refine' wpAnyG_takeD 6 (some 14) (v := _) (by decide) (by kernel_rfl) (by kernel_rfl) rfl rfl (by kernel_rfl) (by kernel_rfl) (by kernel_rfl) (fun _ _ _ h => h) rfl ?_ ⟨g0, g1⟩ ?_
  rotate_left 1
  · (intro w' hSw; (try dsimp only at hSw); go_simp; first | done | with_reducible rfl)
  simp only [Act.put, List.setIfInBounds_toArray, List.set_cons_zero, List.set_cons_succ]
  refine' wpAnyG_takeD 7 (some 15) (v := _) (by decide) (by kernel_rfl) (by kernel_rfl) rfl rfl (by kernel_rfl) (by kernel_rfl) (by kernel_rfl) (fun _ _ _ h => h) rfl ?_ ⟨g0, g1⟩ ?_
  rotate_left 1
  · (intro w' hSw; (try dsimp only at hSw); go_simp; first | done | with_reducible rfl)
  simp only [Act.put, List.setIfInBounds_toArray, List.set_cons_zero, List.set_cons_succ]
  refine' wpAnyG_takeD 8 (some 16) (v := _) (by decide) (by kernel_rfl) (by kernel_rfl) rfl rfl (by kernel_rfl) (by kernel_rfl) (by kernel_rfl) (fun _ _ _ h => h) rfl ?_ ⟨g0, g1⟩ ?_
  rotate_left 1
  · (intro w' hSw; (try dsimp only at hSw); go_simp; first | done | with_reducible rfl)
  simp only [Act.put, List.setIfInBounds_toArray, List.set_cons_zero, List.set_cons_succ]
  refine' wpAnyG_takeD 9 (some 17) (v := _) (by decide) (by kernel_rfl) (by kernel_rfl) rfl rfl (by kernel_rfl) (by kernel_rfl) (by kernel_rfl) (fun _ _ _ h => h) rfl ?_ ⟨g0, g1⟩ ?_
  rotate_left 1
  · (intro w' hSw; (try dsimp only at hSw); go_simp; first | done | with_reducible rfl)
  simp only [Act.put, List.setIfInBounds_toArray, List.set_cons_zero, List.set_cons_succ]
  have e35 : ∀ args w, (callFunc 35 args).run Tryz.prog w = .ok (.enter 35 args) w := enters_of Tryz.func35 (by kernel_rfl) rfl
  have hbd : Below w.heap.size w w.drew := (Below.refl _ _).drew
  have hd := h.below hbd
  have Gd := G.below' hbd
  refine wpAnyG_call 10 (some 18) (f := 35) (args := #[.pointer (some ⟨p.fb, 0, none⟩), S chunk]) (by kernel_rfl) rfl rfl rfl ?_ ?_
  · go_simp
  refine (push_calls p.fb p.rv s.rest chunk (by omega) hok.rest w.drew Gd hd.hf (hd.blk _ (hd.foot _ (.inr (.inl rfl)))).1 hd.rest).mono ?_
  rw [HPL.out]
  rintro e w1 ⟨rv', ov, rfl, hf1, hr1, ho1, hk1, hv1, hov1⟩
  have h1 := hd.pushed G.sz hk1 rv' pl.1 hf1 hr1 hv1
  have z1 := hk1.size
  have zd : w.drew.heap.size = w.heap.size := rfl
  have z8 := G.sz
  have hrow1 : RowAt w1 9 (.slice ka s.kept.length kc) (strsV s.kept) := by rw [← hkv]; exact h1.kept
  obtain ⟨v2, w2, happ, hr2, hg2, hv2⟩ := RowAt.append (P := Tryz.prog) hrow1 (by omega) 22 22 22 _ _ 16 Tryz.underlying22 (by rfl) (by rfl) (by rfl) (by rfl) (by rfl) ov pl.2.length (strsV pl.2) ho1.src (by rw [strsV_len]; simp [maxLen]; omega) (by rw [strsV_len]; omega)
  obtain ⟨va, vc, hva⟩ := hr2.slice
  have hsv : strsV s.kept ++ strsV pl.2 = strsV (s.kept ++ pl.2) := by simp [strsV]
  rw [hsv] at hr2 hva
  rw [strsV_len] at hva
  subst hva
  have z12 := hg2.size
  have hg2' : w1.grownBy w2 p.kv.ownBlock := by rw [hkv]; exact hg2
  have h2 := h1.setKept (p := { p with rv := rv' }) (by omega) hg2' _ (s.kept ++ pl.2) hr2 (fun k q => by rw [hkv]; exact hv2 k q)
  have hoth := (h1.others hg2' (fun k q => h1.kept.kind k q) h1.sep.ks).1
  have c21 : w1.cell? ⟨b, 2, none⟩ = some (.slice ka s.kept.length kc) := by rw [← hkv]; exact h1.cell 2
  have c11 : w1.cell? ⟨b, 1, none⟩ = some (.pointer (some ⟨p.fb, 0, none⟩)) := h1.cell 1
  have c22 : w2.cell? ⟨b, 2, none⟩ = some (.slice ka s.kept.length kc) := by rw [← hkv]; simp [World.cell?, hoth, cellsOf]
  have c12 : w2.cell? ⟨b, 1, none⟩ = some (.pointer (some ⟨p.fb, 0, none⟩)) := by simp [World.cell?, hoth, cellsOf]
  have f22 : w2.frozen? ⟨b, 2, none⟩ = false := by simp [World.frozen?, hoth]
  have hkw : Kept F w (w2.setCell ⟨b, 2, none⟩ (.slice va (s.kept ++ pl.2).length vc)) := by
    refine h.k4 (Kept.grown (b := w1) ?_ hg2' fun k q => .inl (h.foot k (.inr (.inr (.inr (.inl q)))))) _ _
    exact ((Kept.of_below hbd).trans (hk1.mono fun k q => .inl (h.foot k (q.elim (fun q => .inr (.inl q)) (fun q => .inr (.inr (.inl q)))))))
  have H2 := Lib.hid h2
  have HK := Lib.hid hkw
  refine ⟨ov, rfl, fun _ => ⟨c21, c11⟩, ?_⟩
  simp only [Act.put, List.setIfInBounds_toArray, List.set_cons_zero, List.set_cons_succ]
  refine wpAnyG_oneD 11 (some 19) (v := .slice va (s.kept ++ pl.2).length vc) (w' := w2) (by kernel_rfl) rfl rfl rfl ?_ (fun _ => ⟨c22, c12⟩) ?_
  · exact exec_append _ (.tmp 12) (.tmp 18) 22 22 rfl _ _ rfl rfl _ _ happ
  simp only [Act.put, List.setIfInBounds_toArray, List.set_cons_zero, List.set_cons_succ]
  refine' wpAnyG_takeT 12 (some 20) (v := _) (by decide) rfl rfl (by kernel_rfl) (by kernel_rfl) (by kernel_rfl) (fun _ _ _ h => h) rfl ?_ (fun _ => ⟨c22, c12⟩) ?_
  rotate_left 1
  · (intro w'; go_simp; first | done | with_reducible rfl)
  simp only [Act.put, List.setIfInBounds_toArray, List.set_cons_zero, List.set_cons_succ]
  refine' wpAnyG_takeT 13 (some 21) (v := _) (by decide) rfl rfl (by kernel_rfl) (by kernel_rfl) (by kernel_rfl) (fun _ _ _ h => h) rfl ?_ (fun _ => ⟨c22, c12⟩) ?_
  rotate_left 1
  · (intro w'; go_simp; first | done | with_reducible rfl)
  simp only [Act.put, List.setIfInBounds_toArray, List.set_cons_zero, List.set_cons_succ]
  refine wpAnyG_one_skip (i := 14) (w' := w2.setCell ⟨b, 2, none⟩ (.slice va (s.kept ++ pl.2).length vc)) (by kernel_rfl) rfl rfl ?_ ?_ ?_
  · go_simp
  · exact fun h => (by cases h)
  refine wpAnyG_done (by kernel_rfl) ?_ _
  obtain ⟨w3, hw3⟩ : ∃ w3, w2.setCell ⟨b, 2, none⟩ (.slice va (s.kept ++ pl.2).length vc) = w3 := ⟨_, rfl⟩
  have z3 : w2.heap.size = w3.heap.size := by rw [← hw3]; simp [World.setCell]
  rw [hw3] at H2 HK ⊢
  clear h1 h2 hkw happ hr2 hg2 hg2' hrow1 c21 c11 c22 c12 f22 hoth hw3 hr1 hf1 ho1 hv1 hk1 hd
  have hsP : Hid (SessAt w3 b (pushedS s chunk) { p with rv := rv', kv := .slice va (s.kept ++ pl.2).length vc } (Fresh F w w3)) := by
    have := H2.out
    unfold Hid pushedS
    rw [HPL.out]
    refine this.wide (fun k q => ?_) (fun k q => ?_)
    · rcases q with (q | q) | q
      · exact .inl q
      · exact .inr ⟨q.1, by omega⟩
      · exact .inr ⟨by omega, by omega⟩
    · rcases q with q | q
      · have := h.blk k q; have := HK.out.size; omega
      · exact ⟨by omega, q.2⟩
  clear H2
  have hokP := pushed_ok (chunk := chunk) hok
  obtain ⟨s1, hs1⟩ : ∃ s1, pushedS s chunk = s1 := ⟨_, rfl⟩
  obtain ⟨R, hR⟩ : ∃ R, feedS s chunk = R := ⟨_, rfl⟩
  have hrun : Hid (runF s1.kept.length s1 [] = R) := by unfold Hid; rw [← hs1, ← hR]; rfl
  rw [hs1] at hsP hokP
  have HRR := Lib.hid hR
  have hkl1 : s1.kept.length ≤ 1000000 := by
    have e := hokP.vol
    have e2 := kept_le s1
    omega
  clear hs1 hR
  obtain ⟨p1, hp1⟩ : ∃ p1 : SP, ({ p with rv := rv', kv := .slice va (s.kept ++ pl.2).length vc } : SP) = p1 := ⟨_, rfl⟩
  rw [hp1] at hsP
  clear hp1
  have hb4 : Below w3.heap.size w3 (w3.alloc (.cells #[.pointer none, .slice none 0 0] 69)) := (Below.refl _ _).alloc (Nat.le_refl _) _
  have z5 := HK.out.size
  have hrel : FeedR b w3.heap.size F w R (T + 2 * chunk.length) s1.kept.length (w3.alloc (.cells #[.pointer none, .slice none 0 0] 69)) :=
    ⟨s1, p1, Fresh F w w3, [], .slice none 0 0, rfl, hrun.out, hokP, by simp; omega, hsP.out.below hb4, BuiltAt.fresh w3 (by omega), fun k q => ⟨by have := (hsP.out.blk k q).2; omega, fun e => (by cases e)⟩, fun k q => q.elim .inl (fun q => .inr q.1), HK.out.trans (Kept.of_below hb4), by omega, fun k e => (by cases e)⟩
  have HREL := Lib.hid hrel
  clear hrel hb4
  simp only [Exit.then]
  go_wp2_with fail
  go_loopg [7] s1.kept.length (fun g _ wx => FeedR b w3.heap.size F w R (T + 2 * chunk.length) g wx)
  case atStart => exact HREL.out
  case round =>
    obtain ⟨s', p', F', out, v, hg, hrunx, hokx, hout, hsx, hbx, hdx, hFx, hkx, hobx, hvx⟩ := hrel
    obtain ⟨ka', kc', hkv'⟩ := hsx.kept.slice
    rw [strsV_len, hg] at hkv'
    have c2 : wr.cell? ⟨b, 2, none⟩ = some (.slice ka' gk kc') := by rw [← hkv']; exact hsx.cell 2
    have c8 : wr.cell? ⟨b, 8, none⟩ = some (.bool s'.waits) := hsx.cell 8
    have c9 : wr.cell? ⟨b, 9, none⟩ = some (.bool s'.over) := hsx.cell 9
    have c8d : wr.drew.cell? ⟨b, 8, none⟩ = some (.bool s'.waits) := c8
    have hn8 : ¬ v.ownBlock = some b := (hdx b hsx.b8).2
    have HBX : Hid (BuiltAt wr.drew w3.heap.size v out) := hbx
    have HSX := Lib.hid hsx
    have HDX := Lib.hid hdx
    have HFX := Lib.hid hFx
    have HKX := Lib.hid hkx
    have HVX := Lib.hid hvx
    cases gk with
    | zero =>
      have hnil : s'.kept = [] := List.eq_nil_of_length_eq_zero hg
      have HX : Hid ((out, s') = R) := hrunx
      clear hdx hFx hvx hkx hsx hbx
      go_wp2_with fail
      go_region_held3 (fun w' => w'.cell? ⟨b, 8, none⟩ = some (.bool s'.waits)) (first | assumption | exact hk5.cell c8d hn8)
        (first | (go_at_call 39; refine (string_calls wr.drew w3.heap.size v out HBX.out).mono ?_; rintro e w5 ⟨rfl, hb5, hk5⟩))
      have HK5 := Lib.hid hk5
      clear hk5 hb5
      go_wp2
      go_ret2
      rw [HRR.out, ← HX.out]
      exact ⟨rfl, feed_done HSX.out HDX.out HFX.out HKX.out HK5.out HVX.out G.sz H.out.blk⟩
    | succ g =>
      obtain ⟨x, ks, hks⟩ : ∃ x ks, s'.kept = x :: ks := by
        cases hq : s'.kept with
        | nil => rw [hq] at hg; simp at hg
        | cons x ks => exact ⟨x, ks, rfl⟩
      have hrx : runF (g + 1) s' out = if s'.waits || s'.over then (out, s') else runF g (turnS { s' with kept := ks } x).2 (out ++ (turnS { s' with kept := ks } x).1) := by
        conv => lhs; unfold runF
        rw [hks]
      have dg : decide ((0 : Int) < ((g + 1 : Nat) : Int)) = true := by simp
      cases hwt : s'.waits
      · rw [hwt] at c8 c8d
        cases hov : s'.over
        · rw [hov] at c9
          obtain ⟨tn, htn⟩ : ∃ tn, turnS { s' with kept := ks } x = tn := ⟨_, rfl⟩
          obtain ⟨ok2, kp2, le2⟩ := turn_ok hks hwt hokx
          rw [htn] at ok2 kp2 le2
          rw [htn] at hrx
          have HRN : Hid (runF g tn.2 (out ++ tn.1) = R) := by unfold Hid; rw [← hrunx, hrx]; simp [hwt, hov]
          have HTN := Lib.hid htn
          obtain ⟨kb, koff, kcap, hek, hcell⟩ := hsx.kept.cells (by rw [hks]; simp [strsV])
          rw [hek, strsV_len, hg] at hkv'
          cases hkv'
          have c47 : wr.cell? ⟨kb, koff, none⟩ = some (S x) := by
            have := hcell 0 (S x) (by rw [hks]; rfl)
            simpa using this
          have f2 := hsx.frozen 2
          have c6 : wr.cell? ⟨b, 6, none⟩ = some p'.bv := hsx.cell 6
          have hkc1 : (1 : Int) ≤ (kc' : Int) := by
            have := hsx.kept
            rw [hek, hks] at this
            rcases this with ⟨e, _⟩ | ⟨_, _, _, _, e, _, _, _, h2, _⟩
            · cases e
            · cases e; simp [strsV] at h2; omega
          have hb1i : (1 : Int) ≤ ((g + 1 : Nat) : Int) := by omega
          have hgc : ((g + 1 : Nat) : Int) ≤ (kc' : Int) := by
            have := hsx.kept
            rw [hek] at this
            rcases this with ⟨e, _⟩ | ⟨_, _, _, _, e, _, _, _, h2, _⟩
            · cases e
            · cases e; rw [strsV_len, hg] at h2; omega
          clear hrx hcell
          have hxl : x.length ≤ 1000000 := by
            have := hokx.vol
            unfold vol at this
            rw [hks] at this
            simp at this
            omega
          have hks' : ks.length = g := by have := hg; rw [hks] at this; simpa using this
          have hwr8 : 8 ≤ wr.heap.size := by have := hkx.size; have := G.sz; omega
          have GX : Glob wr := H.out.glob G hkx
          have hrow : RowAt wr 9 (.slice (some ⟨kb, koff, none⟩) ((strsV ks).length + 1) kc') (S x :: strsV ks) := by
            have := hsx.kept
            rw [hek, hks] at this
            exact this
          have htail := hrow.tail
          rw [strsV_len, hks'] at htail
          clear hrow
          cases hbo : s'.body with
          | none =>
            have hbv : p'.bv = .pointer none := by have := hsx.body; rw [hbo] at this; exact this.1
            rw [hbv] at c6
            by_cases hk1 : kc' = 1
            · subst hk1
              have hrow2 : RowAt wr 9 (.slice (some ⟨kb, koff, none⟩) g 0) (strsV ks) := htail.2 rfl
              have h2 := hsx.setKept (W' := wr) hwr8 ⟨rfl, rfl, rfl, Nat.le_refl _, fun _ _ _ => rfl⟩ (.slice (some ⟨kb, koff, none⟩) g 0) ks hrow2 (fun k q => .inl (by rw [hek]; exact q))
              have h2' := h2.wide (F' := F') (fun k q => q.elim id (fun q => by omega)) (fun k q => by have := hsx.blk k q; simpa [World.setCell] using this)
              have H2 := Lib.hid h2'
              have HK2 : Hid (Kept F' wr (wr.setCell ⟨b, 2, none⟩ (.slice (some ⟨kb, koff, none⟩) g 0))) := hsx.k4 (Kept.refl _ _) 2 _
              have G2 := hsx.glob GX HK2.out
              clear h2 h2' hrow2
              go_wp2_with fail
              refine (turn_calls_cmd _ b _ _ F' H2.out G2 hbo hokx.most hokx.rcp x hxl).mono ?_
              rw [HTN.out]
              rintro e w6 ⟨rfl, hst⟩
              have HST : Hid (Step b F' wr w6 tn.2) := step_from HSX.out HK2.out hst hwr8
              clear hst
              have hbx6 : BuiltAt w6 w3.heap.size v out := BuiltAt.kept (W := wr) HBX.out HST.out.1 (fun q => (HDX.out _ q).1 rfl) (fun k q q2 => (HDX.out k q2).2 q)
              go_wp2_with fail
              refine (write_calls w6 w3.heap.size v out tn.1 hbx6 (by omega)).mono ?_
              rintro e w7 ⟨rfl, v7, hb7, hk7, hv7⟩
              have HR7 : Hid (FeedR b w3.heap.size F w R (T + 2 * chunk.length) g w7) := feedR_step HSX.out HDX.out HFX.out HKX.out HVX.out HST.out hb7 hk7 hv7 (by rw [kp2]; have := hg; rw [hks] at this; simpa using this) HRN.out ok2 (by rw [List.length_append]; omega) hobx HBX.out.lt (fun k q => (HBX.out.2.2.lt k q).2)
              clear hb7 hk7 hv7 hbx6
              go_wp2
              go_roundg g
              case measure => omega
              case rel => exact HR7.out
            · have hrow2 : RowAt wr 9 (.slice (some ⟨kb, koff + 1, none⟩) g (kc' - 1)) (strsV ks) := htail.1
              have h2 := hsx.setKept (W' := wr) hwr8 ⟨rfl, rfl, rfl, Nat.le_refl _, fun _ _ _ => rfl⟩ (.slice (some ⟨kb, koff + 1, none⟩) g (kc' - 1)) ks hrow2 (fun k q => .inl (by rw [hek]; exact q))
              have h2' := h2.wide (F' := F') (fun k q => q.elim id (fun q => by omega)) (fun k q => by have := hsx.blk k q; simpa [World.setCell] using this)
              have H2 := Lib.hid h2'
              have HK2 : Hid (Kept F' wr (wr.setCell ⟨b, 2, none⟩ (.slice (some ⟨kb, koff + 1, none⟩) g (kc' - 1)))) := hsx.k4 (Kept.refl _ _) 2 _
              have G2 := hsx.glob GX HK2.out
              clear h2 h2' hrow2
              go_wp2_with fail
              refine (turn_calls_cmd _ b _ _ F' H2.out G2 hbo hokx.most hokx.rcp x hxl).mono ?_
              rw [HTN.out]
              rintro e w6 ⟨rfl, hst⟩
              have HST : Hid (Step b F' wr w6 tn.2) := step_from HSX.out HK2.out hst hwr8
              clear hst
              have hbx6 : BuiltAt w6 w3.heap.size v out := BuiltAt.kept (W := wr) HBX.out HST.out.1 (fun q => (HDX.out _ q).1 rfl) (fun k q q2 => (HDX.out k q2).2 q)
              go_wp2_with fail
              refine (write_calls w6 w3.heap.size v out tn.1 hbx6 (by omega)).mono ?_
              rintro e w7 ⟨rfl, v7, hb7, hk7, hv7⟩
              have HR7 : Hid (FeedR b w3.heap.size F w R (T + 2 * chunk.length) g w7) := feedR_step HSX.out HDX.out HFX.out HKX.out HVX.out HST.out hb7 hk7 hv7 (by rw [kp2]; have := hg; rw [hks] at this; simpa using this) HRN.out ok2 (by rw [List.length_append]; omega) hobx HBX.out.lt (fun k q => (HBX.out.2.2.lt k q).2)
              clear hb7 hk7 hv7 hbx6
              go_wp2
              go_roundg g
              case measure => omega
              case rel => exact HR7.out
          | some y =>
            obtain ⟨bb, hbv⟩ : ∃ bb, p'.bv = .pointer (some ⟨bb, 0, none⟩) := by have := hsx.body; rw [hbo] at this; exact ⟨this.choose, this.choose_spec.1⟩
            have hyv : y.length ≤ 1000000 := by
              have := hokx.vol
              unfold vol at this
              rw [hbo] at this
              simp at this
              omega
            rw [hbv] at c6
            by_cases hk1 : kc' = 1
            · subst hk1
              have hrow2 : RowAt wr 9 (.slice (some ⟨kb, koff, none⟩) g 0) (strsV ks) := htail.2 rfl
              have h2 := hsx.setKept (W' := wr) hwr8 ⟨rfl, rfl, rfl, Nat.le_refl _, fun _ _ _ => rfl⟩ (.slice (some ⟨kb, koff, none⟩) g 0) ks hrow2 (fun k q => .inl (by rw [hek]; exact q))
              have h2' := h2.wide (F' := F') (fun k q => q.elim id (fun q => by omega)) (fun k q => by have := hsx.blk k q; simpa [World.setCell] using this)
              have H2 := Lib.hid h2'
              have HK2 : Hid (Kept F' wr (wr.setCell ⟨b, 2, none⟩ (.slice (some ⟨kb, koff, none⟩) g 0))) := hsx.k4 (Kept.refl _ _) 2 _
              have G2 := hsx.glob GX HK2.out
              clear h2 h2' hrow2
              go_wp2_with fail
              refine (turn_calls_line _ b _ _ F' H2.out G2 y hbo hokx.most x hxl (by omega)).mono ?_
              rw [HTN.out]
              rintro e w6 ⟨rfl, hst⟩
              have HST : Hid (Step b F' wr w6 tn.2) := step_from HSX.out HK2.out hst hwr8
              clear hst
              have hbx6 : BuiltAt w6 w3.heap.size v out := BuiltAt.kept (W := wr) HBX.out HST.out.1 (fun q => (HDX.out _ q).1 rfl) (fun k q q2 => (HDX.out k q2).2 q)
              go_wp2_with fail
              refine (write_calls w6 w3.heap.size v out tn.1 hbx6 (by omega)).mono ?_
              rintro e w7 ⟨rfl, v7, hb7, hk7, hv7⟩
              have HR7 : Hid (FeedR b w3.heap.size F w R (T + 2 * chunk.length) g w7) := feedR_step HSX.out HDX.out HFX.out HKX.out HVX.out HST.out hb7 hk7 hv7 (by rw [kp2]; have := hg; rw [hks] at this; simpa using this) HRN.out ok2 (by rw [List.length_append]; omega) hobx HBX.out.lt (fun k q => (HBX.out.2.2.lt k q).2)
              clear hb7 hk7 hv7 hbx6
              go_wp2
              go_roundg g
              case measure => omega
              case rel => exact HR7.out
            · have hrow2 : RowAt wr 9 (.slice (some ⟨kb, koff + 1, none⟩) g (kc' - 1)) (strsV ks) := htail.1
              have h2 := hsx.setKept (W' := wr) hwr8 ⟨rfl, rfl, rfl, Nat.le_refl _, fun _ _ _ => rfl⟩ (.slice (some ⟨kb, koff + 1, none⟩) g (kc' - 1)) ks hrow2 (fun k q => .inl (by rw [hek]; exact q))
              have h2' := h2.wide (F' := F') (fun k q => q.elim id (fun q => by omega)) (fun k q => by have := hsx.blk k q; simpa [World.setCell] using this)
              have H2 := Lib.hid h2'
              have HK2 : Hid (Kept F' wr (wr.setCell ⟨b, 2, none⟩ (.slice (some ⟨kb, koff + 1, none⟩) g (kc' - 1)))) := hsx.k4 (Kept.refl _ _) 2 _
              have G2 := hsx.glob GX HK2.out
              clear h2 h2' hrow2
              go_wp2_with fail
              refine (turn_calls_line _ b _ _ F' H2.out G2 y hbo hokx.most x hxl (by omega)).mono ?_
              rw [HTN.out]
              rintro e w6 ⟨rfl, hst⟩
              have HST : Hid (Step b F' wr w6 tn.2) := step_from HSX.out HK2.out hst hwr8
              clear hst
              have hbx6 : BuiltAt w6 w3.heap.size v out := BuiltAt.kept (W := wr) HBX.out HST.out.1 (fun q => (HDX.out _ q).1 rfl) (fun k q q2 => (HDX.out k q2).2 q)
              go_wp2_with fail
              refine (write_calls w6 w3.heap.size v out tn.1 hbx6 (by omega)).mono ?_
              rintro e w7 ⟨rfl, v7, hb7, hk7, hv7⟩
              have HR7 : Hid (FeedR b w3.heap.size F w R (T + 2 * chunk.length) g w7) := feedR_step HSX.out HDX.out HFX.out HKX.out HVX.out HST.out hb7 hk7 hv7 (by rw [kp2]; have := hg; rw [hks] at this; simpa using this) HRN.out ok2 (by rw [List.length_append]; omega) hobx HBX.out.lt (fun k q => (HBX.out.2.2.lt k q).2)
              clear hb7 hk7 hv7 hbx6
              go_wp2
              go_roundg g
              case measure => omega
              case rel => exact HR7.out
        · rw [hov] at c9
          have HX : Hid ((out, s') = R) := by unfold Hid; rw [← hrunx, hrx]; simp [hwt, hov]
          have HWT := Lib.hid hwt
          clear hdx hFx hvx hkx hsx hbx hrx hwt hov
          go_wp2_with fail
          go_region_held3 (fun w' => w'.cell? ⟨b, 8, none⟩ = some (.bool false)) (first | assumption | exact hk5.cell c8d hn8)
            (first | (go_at_call 39; refine (string_calls wr.drew w3.heap.size v out HBX.out).mono ?_; rintro e w5 ⟨rfl, hb5, hk5⟩))
          have HK5 := Lib.hid hk5
          clear hk5 hb5
          go_wp2
          go_ret2
          rw [HRR.out, ← HX.out]
          exact ⟨(by rw [show (out, s').2.waits = false from HWT.out]; rfl), feed_done HSX.out HDX.out HFX.out HKX.out HK5.out HVX.out G.sz H.out.blk⟩
      · rw [hwt] at c8 c8d
        have HX : Hid ((out, s') = R) := by unfold Hid; rw [← hrunx, hrx]; simp [hwt]
        have HWT := Lib.hid hwt
        clear hdx hFx hvx hkx hsx hbx hrx hwt
        go_wp2_with fail
        go_region_held3 (fun w' => w'.cell? ⟨b, 8, none⟩ = some (.bool true)) (first | assumption | exact hk5.cell c8d hn8)
          (first | (go_at_call 39; refine (string_calls wr.drew w3.heap.size v out HBX.out).mono ?_; rintro e w5 ⟨rfl, hb5, hk5⟩))
        have HK5 := Lib.hid hk5
        clear hk5 hb5
        go_wp2
        go_ret2
        rw [HRR.out, ← HX.out]
        exact ⟨(by rw [show (out, s').2.waits = true from HWT.out]; rfl), feed_done HSX.out HDX.out HFX.out HKX.out HK5.out HVX.out G.sz H.out.blk⟩
end Go.Proofs.YtapanjfheddfnaaGreatDoor
