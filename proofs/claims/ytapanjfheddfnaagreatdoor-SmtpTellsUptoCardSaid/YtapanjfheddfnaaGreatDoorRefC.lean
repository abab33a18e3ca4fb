/- Merged: TellsR, TellsS, TellsL, TellsM, TellsN, TellsC. -/
import Derived.Test.YtapanjfheddfnaaGreatDoorRefB
section
/- The reference's session in the heap, told by the program's own state; its small methods. -/
namespace Go.Proofs.YtapanjfheddfnaaGreatDoor
open Go.RowKit Go.Shelf
attribute [local go_sem high] ext_to ext_from
attribute [local go_sem] ext_list app_list size_list

/-- Where its parts lie; what it holds beyond the program's state: the unfinished line whole, the bytes and the flag that an ended message leaves. -/
structure RP where
  fb : Nat
  left : Bs
  kv : Value
  tv : Value
  bt : Bs
  lg : Bool

def rcells (s : Sess) (p : RP) : Array Value := #[.int .i64 s.most, .pointer (some ⟨p.fb, 0, none⟩), p.kv, .bool s.greeted, .bool s.sender.isSome, S (s.sender.getD []), p.tv, .bool (s.body.isSome && !s.waits), .bool p.lg, S p.bt, .bool s.waits, .bool s.over]
structure RefAt (W : World) (b : Nat) (s : Sess) (p : RP) (F : Nat → Prop) : Prop where
  fb : F b
  ff : F p.fb
  fk : ∀ k, p.kv.ownBlock = some k → F k
  ft : ∀ k, p.tv.ownBlock = some k → F k
  blk : ∀ k, F k → 8 ≤ k ∧ k < W.heap.size
  hs : W.heap[b]? = some (.cells (rcells s p) 66 (0, 0))
  hf : W.heap[p.fb]? = some (.cells #[.int .i64 1000, S p.left] 84 (0, 0))
  rest : s.rest = p.left.take 1000
  ends : ∀ c ∈ p.left, c ≠ 10
  kept : RowAt W 9 p.kv (strsV s.kept)
  rcp : RowAt W 9 p.tv (strsV s.rcp)
  body : ∀ y, s.body = some y → p.bt = y ∧ p.lg = s.long

theorem row_ne {W : World} {b : Nat} {C : Array Value} {v : Value} {xs : List Value} (hs : W.heap[b]? = some (.cells C 66 (0, 0))) (h : RowAt W 9 v xs) : ∀ k, v.ownBlock = some k → k ≠ b := by
  rintro k hk rfl
  obtain ⟨cur, hc⟩ := h.kind k hk
  rw [hs] at hc
  simp at hc
def AtB (b : Nat) : Nat → Prop := fun k => k = b
section
variable {W W' w w' w1 w2 : World} {b : Nat} {s s' s1 s2 : Sess} {p p' p1 : RP} {F : Nat → Prop} {L : Bs}
/-- The session's own block is written, and no other. -/
theorem RefAt.after (h : RefAt W b s p F) {C : Array Value} (hs' : W'.heap[b]? = some (.cells C 66 (0, 0))) (hk : Kept (AtB b) W W') (hC : C = rcells s' p') (hfb : p'.fb = p.fb) (hl : p'.left = p.left) (hr : s'.rest = s.rest)
    (hkept : RowAt W 9 p'.kv (strsV s'.kept)) (hrcp : RowAt W 9 p'.tv (strsV s'.rcp)) (hbody : ∀ y, s'.body = some y → p'.bt = y ∧ p'.lg = s'.long) (fk : ∀ k, p'.kv.ownBlock = some k → F k) (ft : ∀ k, p'.tv.ownBlock = some k → F k) : RefAt W' b s' p' F := by
  have hne : p.fb ≠ b := by
    intro e
    have h1 := h.hs
    have h2 := h.hf
    rw [e, h1] at h2
    simp at h2
  refine ⟨h.fb, by rw [hfb]; exact h.ff, fk, ft, fun k q => ⟨(h.blk k q).1, Nat.lt_of_lt_of_le (h.blk k q).2 hk.size⟩, by rw [hs', hC], ?_, by rw [hr, hl]; exact h.rest, by rw [hl]; exact h.ends, ?_, ?_, hbody⟩
  · rw [hfb, hl]
    exact hk.heap h.hf hne
  · exact hkept.heap fun k q => hk.block k (hkept.lt k q).2 (row_ne h.hs hkept k q)
  · exact hrcp.heap fun k q => hk.block k (hrcp.lt k q).2 (row_ne h.hs hrcp k q)
theorem RefAt.cell (h : RefAt W b s p F) (i : Nat) : W.cell? ⟨b, i, none⟩ = (rcells s p)[i]? := by simp [World.cell?, h.hs]
theorem RefAt.frozen (h : RefAt W b s p F) (i : Nat) : W.frozen? ⟨b, i, none⟩ = false := by simp [World.frozen?, h.hs]
theorem RefAt.frame {T : Nat → Prop} (h : RefAt W b s p F) (hk : Kept T W W') (hT : ∀ k, F k → ¬ T k) : RefAt W' b s p F := by
  have hn : ∀ k, F k → W'.heap[k]? = W.heap[k]? := fun k q => hk.block k (h.blk k q).2 (hT k q)
  exact ⟨h.fb, h.ff, h.fk, h.ft, fun k q => ⟨(h.blk k q).1, Nat.lt_of_lt_of_le (h.blk k q).2 hk.size⟩, (hn _ h.fb).trans h.hs, (hn _ h.ff).trans h.hf, h.rest, h.ends, h.kept.heap fun k q => hn k (h.fk k q), h.rcp.heap fun k q => hn k (h.ft k q), h.body⟩
theorem RefAt.below (h : RefAt W b s p F) (hk : Below W.heap.size W W') : RefAt W' b s p F := h.frame (T := NoBlk) (Kept.of_below hk) fun _ _ h => h
theorem RefAt.wide {F' : Nat → Prop} (h : RefAt W b s p F) (hF : ∀ k, F k → F' k) (hl : ∀ k, F' k → 8 ≤ k ∧ k < W.heap.size) : RefAt W b s p F' :=
  ⟨hF _ h.fb, hF _ h.ff, fun k q => hF k (h.fk k q), fun k q => hF k (h.ft k q), hl, h.hs, h.hf, h.rest, h.ends, h.kept, h.rcp, h.body⟩
theorem RefAt.own (h : RefAt W b s p F) (hk : Kept (AtB b) W W') : Kept F W W' := hk.mono fun k q => by
  have : k = b := q
  subst this; exact .inl h.fb
theorem AtB.set (hk : Kept (AtB b) W W') (i : Nat) (v : Value) : Kept (AtB b) W (W'.setCell ⟨b, i, none⟩ v) := hk.setCell (p := ⟨b, i, none⟩) (.inl rfl) v

/-- What a method leaves. -/
def RStep (b : Nat) (F : Nat → Prop) (L : Bs) (w w' : World) (s' : Sess) : Prop := Kept F w w' ∧ ∃ p', RefAt w' b s' p' (Fresh F w w') ∧ p'.left = L
theorem RStep.of (h : RefAt w b s p F) (hk : Kept F w w1) (h1 : RefAt w1 b s1 p1 F) (hb : Below w1.heap.size w1 w2) (h8 : 8 ≤ w.heap.size) (hl : p1.left = L) : RStep b F L w w2 s1 := by
  have z := hk.size
  have z2 := hb.size
  refine ⟨hk.trans (Kept.of_below hb), p1, (h1.below hb).wide (fun k q => .inl q) (fun k q => ?_), hl⟩
  rcases q with q | q
  · have := h.blk k q; omega
  · omega
theorem RStep.same (h : RefAt w b s p F) (hb : Below w.heap.size w w2) (h8 : 8 ≤ w.heap.size) : RStep b F p.left w w2 s := RStep.of h (Kept.refl _ _) h hb h8 rfl
/-- One step behind another. -/
theorem RStep.from (h : RefAt w b s p F) (hk : Kept F w w1) (h8 : 8 ≤ w.heap.size) (k : RStep b (Fresh F w w1) L w1 w2 s2) : RStep b F L w w2 s2 := by
  obtain ⟨kk, p2, h2, hl⟩ := k
  have z := hk.size
  have z2 := kk.size
  refine ⟨hk.trans' kk (fun i q => q.imp id fun q => q.1), p2, h2.wide (fun i q => ?_) (fun i q => ?_), hl⟩
  · rcases q with (q | q) | q
    · exact .inl q
    · exact .inr ⟨q.1, by omega⟩
    · exact .inr ⟨by omega, q.2⟩
  · rcases q with q | q
    · have := h.blk i q; omega
    · omega
theorem RStep.from' (h : RefAt w b s p F) (hk : Kept F w w1) (h8 : 8 ≤ w.heap.size) (k : RStep b F L w1 w2 s2) : RStep b F L w w2 s2 := by
  obtain ⟨kk, p2, h2, hl⟩ := k
  have z := hk.size
  have z2 := kk.size
  refine ⟨hk.trans kk, p2, h2.wide (fun i q => ?_) (fun i q => ?_), hl⟩
  · exact q.imp id fun q => ⟨by omega, q.2⟩
  · rcases q with q | q
    · have := h.blk i q; omega
    · omega
theorem RStep.then (h : RefAt w b s p F) (h8 : 8 ≤ w.heap.size) (k : RStep b F L w w1 s1) (hb : Below w1.heap.size w1 w2) : RStep b F L w w2 s1 := by
  obtain ⟨kk, p1, h1, hl⟩ := k
  have z := kk.size
  have z2 := hb.size
  refine ⟨kk.trans (Kept.of_below hb), p1, (h1.below hb).wide (fun i q => q.imp id fun q => ⟨q.1, by omega⟩) (fun i q => ?_), hl⟩
  rcases q with q | q
  · have := h.blk i q; omega
  · omega

theorem anew_done (h : RefAt w b s p F) : RefAt (((w.setCell ⟨b, 4, none⟩ (.bool false)).setCell ⟨b, 5, none⟩ (S [])).setCell ⟨b, 6, none⟩ (.slice none 0 0)) b (resetS s) { p with tv := .slice none 0 0 } F :=
  h.after (C := (((rcells s p).setIfInBounds 4 (.bool false)).setIfInBounds 5 (S [])).setIfInBounds 6 (.slice none 0 0)) (heap_set (heap_set (heap_set h.hs _) _) _)
    (AtB.set (AtB.set (AtB.set (Kept.refl _ _) 4 _) 5 _) 6 _) rfl rfl rfl rfl h.kept (RowAt.nil _ _) h.body h.fk (fun k q => by cases q)
theorem anew_kept (h : RefAt w b s p F) : Kept F w (((w.setCell ⟨b, 4, none⟩ (.bool false)).setCell ⟨b, 5, none⟩ (S [])).setCell ⟨b, 6, none⟩ (.slice none 0 0)) :=
  h.own (AtB.set (AtB.set (AtB.set (Kept.refl _ _) 4 _) 5 _) 6 _)
end

set_option maxRecDepth 100000 in
theorem anew_calls (w : World) (b : Nat) (s : Sess) (p : RP) (F : Nat → Prop) (h : RefAt w b s p F) :
    Calls Tryz.prog 45 #[.pointer (some ⟨b, 0, none⟩)] w fun e w' => e = .returned (.tuple #[]) ∧ w' = ((w.setCell ⟨b, 4, none⟩ (.bool false)).setCell ⟨b, 5, none⟩ (S [])).setCell ⟨b, 6, none⟩ (.slice none 0 0) := by
  have c4 : w.cell? ⟨b, 4, none⟩ = some (.bool s.sender.isSome) := h.cell 4
  have c5 : w.cell? ⟨b, 5, none⟩ = some (S (s.sender.getD [])) := h.cell 5
  have c6 : w.cell? ⟨b, 6, none⟩ = some p.tv := h.cell 6
  have f4 := h.frozen 4
  have f5 := h.frozen 5
  have f6 := h.frozen 6
  go_enter Tryz.func45, Tryz.ntmps45
  go_wp2
  go_end0
  exact ⟨rfl, rfl⟩
set_option maxRecDepth 100000 in
theorem greetR_calls (w : World) (v : Value) : Calls Tryz.prog 13 #[v] w fun e w' => e = .returned (S (replyL 220)) ∧ Below w.heap.size w w' := by
  go_enter Tryz.func13, Tryz.ntmps13
  go_wp2_with fail
  refine (replyR_220 _).mono ?_
  rintro e w3 ⟨rfl, hb3⟩
  go_wp2
  go_ret
  exact ⟨rfl, hb3⟩
set_option maxRecDepth 100000 in
theorem overR_calls (w : World) (b : Nat) (s : Sess) (p : RP) (F : Nat → Prop) (h : RefAt w b s p F) : Calls Tryz.prog 17 #[.pointer (some ⟨b, 0, none⟩)] w fun e w' => e = .returned (.bool s.over) ∧ w' = w := by
  have c9 : w.cell? ⟨b, 11, none⟩ = some (.bool s.over) := h.cell 11
  go_enter Tryz.func17, Tryz.ntmps17
  go_wp2
  go_ret
  exact ⟨rfl, rfl⟩
set_option maxRecDepth 100000 in
theorem feedNewR_calls (w : World) : Calls Tryz.prog 32 #[.int .i64 1000] w fun e w' => e = .returned (.pointer (some ⟨w.heap.size, 0, none⟩)) ∧ w' = w.alloc (.cells #[.int .i64 1000, S []] 84) := by
  go_enter Tryz.func32, Tryz.ntmps32
  go_wp2
  go_ret
  exact ⟨rfl, rfl⟩
def newRP (n : Nat) : RP := { fb := n, left := [], kv := .slice none 0 0, tv := .slice none 0 0, bt := [], lg := false }
theorem newR_at (w : World) (h8 : 8 ≤ w.heap.size) (m : Int) : RefAt ((w.alloc (.cells #[.int .i64 1000, S []] 84)).alloc (.cells (rcells (newS m) (newRP w.heap.size)) 66)) (w.heap.size + 1) (newS m) (newRP w.heap.size) (fun k => k = w.heap.size ∨ k = w.heap.size + 1) := by
  have e1 : ((w.alloc (.cells #[.int .i64 1000, S []] 84)).alloc (.cells (rcells (newS m) (newRP w.heap.size)) 66)).heap[w.heap.size + 1]? = some (.cells (rcells (newS m) (newRP w.heap.size)) 66 (0, 0)) := by
    have := heap_alloc_new (w.alloc (.cells #[.int .i64 1000, S []] 84)) (.cells (rcells (newS m) (newRP w.heap.size)) 66)
    rwa [World.size_alloc] at this
  have e2 : ((w.alloc (.cells #[.int .i64 1000, S []] 84)).alloc (.cells (rcells (newS m) (newRP w.heap.size)) 66)).heap[w.heap.size]? = some (.cells #[.int .i64 1000, S []] 84 (0, 0)) := by
    rw [Below.heap_alloc _ _ _ (by simp)]; exact heap_alloc_new _ _
  refine ⟨.inr rfl, .inl rfl, fun k q => (by cases q), fun k q => (by cases q), fun k q => ?_, e1, e2, rfl, fun c hc => (by cases hc), .inl ⟨rfl, rfl⟩, .inl ⟨rfl, rfl⟩, fun y hy => (by cases hy)⟩
  simp only [World.size_alloc]
  omega
theorem most_minmax (m : Int) : ((mostL m : Nat) : Int) = min (max m 1) 65536 := by unfold mostL; omega
set_option maxHeartbeats 1000000 in
set_option maxRecDepth 100000 in
theorem newR_calls (w : World) (h8 : 8 ≤ w.heap.size) (m : Int) : Calls Tryz.prog 11 #[.int .i64 m] w fun e w' => e = .returned (.pointer (some ⟨w.heap.size + 1, 0, none⟩)) ∧ RefAt w' (w.heap.size + 1) (newS m) (newRP w.heap.size) (fun k => k = w.heap.size ∨ k = w.heap.size + 1) ∧ Below w.heap.size w w' := by
  have hm := most_minmax m
  have HM := Lib.hid hm
  clear hm
  go_enter Tryz.func11, Tryz.ntmps11
  go_wp2_with (go_at_call 32; refine (feedNewR_calls _).mono ?_; rintro e w' ⟨rfl, hw2⟩; rw [hw2])
  go_ret
  have e := newR_at w h8 m
  simp only [rcells, newS, newRP, HM.out] at e
  exact ⟨by simp, e, ((Below.refl _ w).alloc (Nat.le_refl _) _).alloc (by simp) _⟩
end Go.Proofs.YtapanjfheddfnaaGreatDoor
end
section
/- The reference's commands without a path, and a line of a message. -/
namespace Go.Proofs.YtapanjfheddfnaaGreatDoor
open Go.RowKit Go.Shelf
attribute [local go_sem high] ext_to ext_from
attribute [local go_sem] ext_list app_list size_list

section
variable {w w' w1 w2 : World} {b : Nat} {s s' : Sess} {p p' : RP} {F : Nat → Prop}
/-- One cell is written. -/
theorem RefAt.put (h : RefAt w b s p F) (i : Nat) (v : Value) (hC : (rcells s p).setIfInBounds i v = rcells s' p') (hfb : p'.fb = p.fb) (hl : p'.left = p.left) (hr : s'.rest = s.rest)
    (hkept : RowAt w 9 p'.kv (strsV s'.kept)) (hrcp : RowAt w 9 p'.tv (strsV s'.rcp)) (hbody : ∀ y, s'.body = some y → p'.bt = y ∧ p'.lg = s'.long) (fk : ∀ k, p'.kv.ownBlock = some k → F k) (ft : ∀ k, p'.tv.ownBlock = some k → F k) : RefAt (w.setCell ⟨b, i, none⟩ v) b s' p' F :=
  h.after (heap_set h.hs v) (AtB.set (Kept.refl _ _) i v) hC hfb hl hr hkept hrcp hbody fk ft
theorem RefAt.own1 (h : RefAt w b s p F) (i : Nat) (v : Value) : Kept F w (w.setCell ⟨b, i, none⟩ v) := h.own (AtB.set (Kept.refl _ _) i v)
end

set_option maxHeartbeats 1000000 in
set_option maxRecDepth 100000 in
theorem bareRset_calls (w : World) (h8 : 8 ≤ w.heap.size) (b : Nat) (s : Sess) (p : RP) (F : Nat → Prop) (h : RefAt w b s p F) :
    Calls Tryz.prog 79 #[.pointer (some ⟨b, 0, none⟩), S [82, 83, 69, 84]] w fun e w' => e = .returned (S (rsetS s).1) ∧ RStep b F p.left w w' (rsetS s).2 := by
  have H := Lib.hid h
  have HD := Lib.hid (anew_done h)
  have HK := Lib.hid (anew_kept h)
  clear h
  go_enter Tryz.func79, Tryz.ntmps79
  go_wp2_with fail
  refine (anew_calls _ b s p F H.out).mono ?_
  rintro e w1 ⟨rfl, rfl⟩
  obtain ⟨w2, hw2⟩ : ∃ w2, ((w.setCell ⟨b, 4, none⟩ (.bool false)).setCell ⟨b, 5, none⟩ (S [])).setCell ⟨b, 6, none⟩ (.slice none 0 0) = w2 := ⟨_, rfl⟩
  rw [hw2] at HD HK ⊢
  clear hw2
  go_wp2_with fail
  refine (replyR_250 _).mono ?_
  rintro e w3 ⟨rfl, hb3⟩
  go_wp2
  go_ret
  exact ⟨rfl, RStep.of H.out HK.out HD.out hb3 h8 rfl⟩
set_option maxHeartbeats 1000000 in
set_option maxRecDepth 100000 in
theorem bareQuit_calls (w : World) (h8 : 8 ≤ w.heap.size) (b : Nat) (s : Sess) (p : RP) (F : Nat → Prop) (h : RefAt w b s p F) :
    Calls Tryz.prog 79 #[.pointer (some ⟨b, 0, none⟩), S [81, 85, 73, 84]] w fun e w' => e = .returned (S (quitS s).1) ∧ RStep b F p.left w w' (quitS s).2 := by
  have c11 : w.cell? ⟨b, 11, none⟩ = some (.bool s.over) := h.cell 11
  have f11 := h.frozen 11
  have HD : Hid (RefAt (w.setCell ⟨b, 11, none⟩ (.bool true)) b { s with over := true } p F) := h.put 11 (.bool true) rfl rfl rfl rfl h.kept h.rcp h.body h.fk h.ft
  have HK := Lib.hid (h.own1 11 (.bool true))
  have H := Lib.hid h
  clear h
  go_enter Tryz.func79, Tryz.ntmps79
  go_wp2_with fail
  obtain ⟨w2, hw2⟩ : ∃ w2, w.setCell ⟨b, 11, none⟩ (.bool true) = w2 := ⟨_, rfl⟩
  rw [hw2] at HD HK ⊢
  clear hw2
  refine (replyR_221 _).mono ?_
  rintro e w3 ⟨rfl, hb3⟩
  go_wp2
  go_ret
  exact ⟨rfl, RStep.of H.out HK.out HD.out hb3 h8 rfl⟩
set_option maxHeartbeats 1000000 in
set_option maxRecDepth 100000 in
theorem bareData_calls (w : World) (h8 : 8 ≤ w.heap.size) (b : Nat) (s : Sess) (p : RP) (F : Nat → Prop) (h : RefAt w b s p F) (hw : s.waits = false) :
    Calls Tryz.prog 79 #[.pointer (some ⟨b, 0, none⟩), S [68, 65, 84, 65]] w fun e w' => e = .returned (S (dataS s).1) ∧ RStep b F p.left w w' (dataS s).2 := by
  obtain ⟨ka, kc, hkv⟩ := h.rcp.slice
  rw [strsV_len] at hkv
  have c6 : w.cell? ⟨b, 6, none⟩ = some (.slice ka s.rcp.length kc) := by rw [← hkv]; exact h.cell 6
  have c7 : w.cell? ⟨b, 7, none⟩ = some (.bool (s.body.isSome && !s.waits)) := h.cell 7
  have c8 : w.cell? ⟨b, 8, none⟩ = some (.bool p.lg) := h.cell 8
  have c9 : w.cell? ⟨b, 9, none⟩ = some (S p.bt) := h.cell 9
  have f7 := h.frozen 7
  have f8 := h.frozen 8
  have f9 := h.frozen 9
  by_cases hr : s.rcp = []
  · have HE : Hid (dataS s = (replyL 503, s)) := by unfold Hid dataS; rw [if_pos hr]
    have d : (((s.rcp.length : Nat) : Int) == 0) = true := by rw [hr]; rfl
    rw [HE.out]
    have H := Lib.hid h
    clear h hr
    go_enter Tryz.func79, Tryz.ntmps79
    go_wp2_with fail
    refine (replyR_503 _).mono ?_
    rintro e w3 ⟨rfl, hb3⟩
    go_wp2
    go_ret
    exact ⟨rfl, RStep.same H.out hb3 h8⟩
  · have HE : Hid (dataS s = (replyL 354, { s with body := some [], long := false })) := by unfold Hid dataS; rw [if_neg hr]
    have d : (((s.rcp.length : Nat) : Int) == 0) = false := by
      have := List.length_pos_iff.2 hr
      simp; omega
    rw [HE.out]
    have HD : Hid (RefAt (((w.setCell ⟨b, 7, none⟩ (.bool true)).setCell ⟨b, 8, none⟩ (.bool false)).setCell ⟨b, 9, none⟩ (S [])) b { s with body := some [], long := false } { p with bt := [], lg := false } F) :=
      h.after (C := (((rcells s p).setIfInBounds 7 (.bool true)).setIfInBounds 8 (.bool false)).setIfInBounds 9 (S [])) (heap_set (heap_set (heap_set h.hs _) _) _)
        (AtB.set (AtB.set (AtB.set (Kept.refl _ _) 7 _) 8 _) 9 _) (by unfold rcells; rw [hw]; rfl) rfl rfl rfl h.kept h.rcp (fun y hy => by cases hy; exact ⟨rfl, rfl⟩) h.fk h.ft
    have HK : Hid (Kept F w (((w.setCell ⟨b, 7, none⟩ (.bool true)).setCell ⟨b, 8, none⟩ (.bool false)).setCell ⟨b, 9, none⟩ (S []))) := h.own (AtB.set (AtB.set (AtB.set (Kept.refl _ _) 7 _) 8 _) 9 _)
    have H := Lib.hid h
    clear h hr
    go_enter Tryz.func79, Tryz.ntmps79
    go_wp2_with fail
    obtain ⟨w2, hw2⟩ : ∃ w2, ((w.setCell ⟨b, 7, none⟩ (.bool true)).setCell ⟨b, 8, none⟩ (.bool false)).setCell ⟨b, 9, none⟩ (S []) = w2 := ⟨_, rfl⟩
    rw [hw2] at HD HK
    first | rw [hw2] | skip
    refine (replyR_354 _).mono ?_
    rintro e w3 ⟨rfl, hb3⟩
    go_wp2
    go_ret
    exact ⟨rfl, RStep.of H.out HK.out HD.out hb3 h8 rfl⟩
end Go.Proofs.YtapanjfheddfnaaGreatDoor
end
section
/- The reference's line of a message. -/
namespace Go.Proofs.YtapanjfheddfnaaGreatDoor
open Go.RowKit Go.Shelf
attribute [local go_sem high] ext_to ext_from
attribute [local go_sem] ext_list app_list size_list

section
variable {w : World} {b : Nat} {s : Sess} {p : RP} {F : Nat → Prop}
theorem line_after (h : RefAt w b s p F) (hw : s.waits = false) (y z : Bs) (hy : s.body = some y) (ln : Bool) : RefAt ((w.setCell ⟨b, 8, none⟩ (.bool ln)).setCell ⟨b, 9, none⟩ (S z)) b { s with long := ln, body := some z } { p with lg := ln, bt := z } F :=
  h.after (C := ((rcells s p).setIfInBounds 8 (.bool ln)).setIfInBounds 9 (S z)) (heap_set (heap_set h.hs _) _) (AtB.set (AtB.set (Kept.refl _ _) 8 _) 9 _) (by unfold rcells; rw [hy]; rfl) rfl rfl rfl h.kept h.rcp (fun u hu => by cases hu; exact ⟨rfl, rfl⟩) h.fk h.ft
theorem line_kept (h : RefAt w b s p F) (z : Bs) (ln : Bool) : Kept F w ((w.setCell ⟨b, 8, none⟩ (.bool ln)).setCell ⟨b, 9, none⟩ (S z)) := h.own (AtB.set (AtB.set (Kept.refl _ _) 8 _) 9 _)
end
theorem last_ten (l : Bs) (n : Nat) (hn : l.length = n + 1) (hsz : n < (⟨l.toArray⟩ : ByteArray).size) : Lib.hasSuffix l [10] = ((((⟨l.toArray⟩ : ByteArray)[n]'hsz).toNat : Int) == 10) := by
  have hl : n < l.length := by omega
  have e : l = l.take n ++ [l[n]] := by
    conv => lhs; rw [← List.take_append_drop n l]
    rw [List.drop_eq_getElem_cons hl, List.drop_eq_nil_of_le (by omega)]
  have h1 : Lib.hasSuffix l [10] = (l[n] == 10) := by
    conv => lhs; rw [e]
    rw [suffix10]
  rw [h1]
  show _ = (((l[n]).toNat : Int) == 10)
  have := byte_eq l[n] 10
  by_cases q : l[n] = 10
  · rw [q]; rfl
  · have q2 : ¬ ((l[n].toNat : Nat) : Int) = 10 := fun r => q (this.1 r)
    rw [beq_eq_false_iff_ne.2 q, beq_eq_false_iff_ne.2 q2]

def headDot (l : Bs) : Bool := l.head? == some 46
theorem head_dot (l : Bs) (hne : l ≠ []) (hsz : 0 < (⟨l.toArray⟩ : ByteArray).size) : ((((⟨l.toArray⟩ : ByteArray)[0]'hsz).toNat : Int) == 46) = headDot l := by
  obtain ⟨x, t, rfl⟩ := List.exists_cons_of_ne_nil hne
  show ((x.toNat : Int) == 46) = _
  unfold headDot
  have := byte_eq x 46
  by_cases q : x = 46
  · subst q; rfl
  · have q2 : ¬ ((x.toNat : Nat) : Int) = 46 := fun r => q (this.1 r)
    rw [beq_eq_false_iff_ne.2 q2]
    simp [q]
theorem dot_cut (l : Bs) : Lib.trimPrefix l [46] = if headDot l then l.drop 1 else l := by
  unfold Lib.trimPrefix headDot
  cases l with
  | nil => rfl
  | cons x t =>
    by_cases q : x = 46
    · subst q; simp [Lib.hasPrefix, List.isPrefixOf]
    · simp [Lib.hasPrefix, List.isPrefixOf, q, Ne.symm q]

set_option maxHeartbeats 2000000 in
set_option maxRecDepth 100000 in
theorem line_V0 (w : World) (h8 : 8 ≤ w.heap.size) (b : Nat) (s : Sess) (p : RP) (F : Nat → Prop) (h : RefAt w b s p F) (hw : s.waits = false) (y l : Bs) (hy : s.body = some y) (hl : y.length + l.length ≤ 100000000) (hl0 : l = []) :
    Calls Tryz.prog 41 #[.pointer (some ⟨b, 0, none⟩), S l] w fun e w' => e = .returned (S []) ∧ RStep b F p.left w w' { s with long := s.long || true, body := some (y ++ l) } := by
  obtain ⟨hbt, hlg⟩ := h.body y hy
  obtain ⟨LG, hLG⟩ : ∃ LG, s.long = LG := ⟨_, rfl⟩
  have c8 : w.cell? ⟨b, 8, none⟩ = some (.bool p.lg) := h.cell 8
  rw [hlg, hLG] at c8
  have c9 : w.cell? ⟨b, 9, none⟩ = some (S p.bt) := h.cell 9
  rw [hbt] at c9
  have f8 := h.frozen 8
  have f9 := h.frozen 9
  have HLG : Hid (p.lg = LG) := hlg.trans hLG
  have HBT := Lib.hid hbt
  have HSL := Lib.hid hLG
  have HR := Lib.hid h
  have HW := Lib.hid hw
  have HY := Lib.hid hy
  clear h hw hy hbt hlg hLG
  subst hl0

  rw [HSL.out]
  cases LG
  all_goals
    go_enter Tryz.func41, Tryz.ntmps41

    go_wp2
    go_ret
    rw [List.append_nil]
    exact ⟨rfl, RStep.of HR.out (line_kept HR.out _ _) (line_after HR.out HW.out y _ HY.out _) (Below.refl _ _) h8 rfl⟩

set_option maxHeartbeats 2000000 in
set_option maxRecDepth 100000 in
theorem line_V1n (w : World) (h8 : 8 ≤ w.heap.size) (b : Nat) (s : Sess) (p : RP) (F : Nat → Prop) (h : RefAt w b s p F) (hw : s.waits = false) (y l : Bs) (hy : s.body = some y) (hl : y.length + l.length ≤ 100000000) (hne : l ≠ []) (hten : Lib.hasSuffix l [10] = false) (hdot : headDot l = false) :
    Calls Tryz.prog 41 #[.pointer (some ⟨b, 0, none⟩), S l] w fun e w' => e = .returned (S []) ∧ RStep b F p.left w w' { s with long := s.long || true, body := some (y ++ l) } := by
  obtain ⟨hbt, hlg⟩ := h.body y hy
  obtain ⟨LG, hLG⟩ : ∃ LG, s.long = LG := ⟨_, rfl⟩
  have c8 : w.cell? ⟨b, 8, none⟩ = some (.bool p.lg) := h.cell 8
  rw [hlg, hLG] at c8
  have c9 : w.cell? ⟨b, 9, none⟩ = some (S p.bt) := h.cell 9
  rw [hbt] at c9
  have f8 := h.frozen 8
  have f9 := h.frozen 9
  have HLG : Hid (p.lg = LG) := hlg.trans hLG
  have HBT := Lib.hid hbt
  have HSL := Lib.hid hLG
  have HR := Lib.hid h
  have HW := Lib.hid hw
  have HY := Lib.hid hy
  clear h hw hy hbt hlg hLG
  obtain ⟨n, hn⟩ : ∃ n, l.length = n + 1 := ⟨l.length - 1, by have := List.length_pos_iff.2 hne; omega⟩
  have he : List.isEmpty l = false := by cases l with | nil => exact absurd rfl hne | cons _ _ => rfl
  have hlt : (n : Int) < (n : Int) + 1 := by omega
  have hnb : n + 1 ≤ 100000000 := by omega
  have hsz : n < (⟨l.toArray⟩ : ByteArray).size := by show n < l.length; omega
  have hsz0 : 0 < (⟨l.toArray⟩ : ByteArray).size := by show 0 < l.length; omega
  have dc : ((((⟨l.toArray⟩ : ByteArray)[n]'hsz).toNat : Int) == 10) = false := by rw [← last_ten l n hn hsz]; exact hten
  have d0 : ((((⟨l.toArray⟩ : ByteArray)[0]'hsz0).toNat : Int) == 46) = false := by rw [head_dot l hne hsz0]; exact hdot
  have hl2 : y.length + (n + 1) ≤ 100000000 := by omega
  have HZ : Hid ((List.take (n + 1) l).tail = l.drop 1) := by unfold Hid; rw [← hn, List.take_length, List.drop_one]
  clear hten hdot hne

  rw [HSL.out]
  cases LG
  all_goals
    go_enter Tryz.func41, Tryz.ntmps41

    go_wp2
    go_ret
    exact ⟨rfl, RStep.of HR.out (line_kept HR.out _ _) (line_after HR.out HW.out y _ HY.out _) (Below.refl _ _) h8 rfl⟩

set_option maxHeartbeats 2000000 in
set_option maxRecDepth 100000 in
theorem line_V1d (w : World) (h8 : 8 ≤ w.heap.size) (b : Nat) (s : Sess) (p : RP) (F : Nat → Prop) (h : RefAt w b s p F) (hw : s.waits = false) (y l : Bs) (hy : s.body = some y) (hl : y.length + l.length ≤ 100000000) (hne : l ≠ []) (hten : Lib.hasSuffix l [10] = false) (hdot : headDot l = true) :
    Calls Tryz.prog 41 #[.pointer (some ⟨b, 0, none⟩), S l] w fun e w' => e = .returned (S []) ∧ RStep b F p.left w w' { s with long := s.long || true, body := some (y ++ l.drop 1) } := by
  obtain ⟨hbt, hlg⟩ := h.body y hy
  obtain ⟨LG, hLG⟩ : ∃ LG, s.long = LG := ⟨_, rfl⟩
  have c8 : w.cell? ⟨b, 8, none⟩ = some (.bool p.lg) := h.cell 8
  rw [hlg, hLG] at c8
  have c9 : w.cell? ⟨b, 9, none⟩ = some (S p.bt) := h.cell 9
  rw [hbt] at c9
  have f8 := h.frozen 8
  have f9 := h.frozen 9
  have HLG : Hid (p.lg = LG) := hlg.trans hLG
  have HBT := Lib.hid hbt
  have HSL := Lib.hid hLG
  have HR := Lib.hid h
  have HW := Lib.hid hw
  have HY := Lib.hid hy
  clear h hw hy hbt hlg hLG
  obtain ⟨n, hn⟩ : ∃ n, l.length = n + 1 := ⟨l.length - 1, by have := List.length_pos_iff.2 hne; omega⟩
  have he : List.isEmpty l = false := by cases l with | nil => exact absurd rfl hne | cons _ _ => rfl
  have hlt : (n : Int) < (n : Int) + 1 := by omega
  have hnb : n + 1 ≤ 100000000 := by omega
  have hsz : n < (⟨l.toArray⟩ : ByteArray).size := by show n < l.length; omega
  have hsz0 : 0 < (⟨l.toArray⟩ : ByteArray).size := by show 0 < l.length; omega
  have dc : ((((⟨l.toArray⟩ : ByteArray)[n]'hsz).toNat : Int) == 10) = false := by rw [← last_ten l n hn hsz]; exact hten
  have d0 : ((((⟨l.toArray⟩ : ByteArray)[0]'hsz0).toNat : Int) == 46) = true := by rw [head_dot l hne hsz0]; exact hdot
  have hl2 : y.length + (n + 1) ≤ 100000000 := by omega
  have HZ : Hid ((List.take (n + 1) l).tail = l.drop 1) := by unfold Hid; rw [← hn, List.take_length, List.drop_one]
  clear hten hdot hne

  rw [HSL.out]
  cases LG
  all_goals
    go_enter Tryz.func41, Tryz.ntmps41

    go_wp2
    go_ret
    rw [HZ.out]
    exact ⟨rfl, RStep.of HR.out (line_kept HR.out _ _) (line_after HR.out HW.out y _ HY.out _) (Below.refl _ _) h8 rfl⟩

set_option maxHeartbeats 2000000 in
set_option maxRecDepth 100000 in
theorem line_V2n (w : World) (h8 : 8 ≤ w.heap.size) (b : Nat) (s : Sess) (p : RP) (F : Nat → Prop) (h : RefAt w b s p F) (hw : s.waits = false) (y l : Bs) (hy : s.body = some y) (hl : y.length + l.length ≤ 100000000) (hne : l ≠ []) (hten : Lib.hasSuffix l [10] = true) (hdot : headDot l = false) (hbare : bareL l ≠ [46]) :
    Calls Tryz.prog 41 #[.pointer (some ⟨b, 0, none⟩), S l] w fun e w' => e = .returned (S []) ∧ RStep b F p.left w w' { s with long := s.long || false, body := some (y ++ l) } := by
  obtain ⟨hbt, hlg⟩ := h.body y hy
  obtain ⟨LG, hLG⟩ : ∃ LG, s.long = LG := ⟨_, rfl⟩
  have c8 : w.cell? ⟨b, 8, none⟩ = some (.bool p.lg) := h.cell 8
  rw [hlg, hLG] at c8
  have c9 : w.cell? ⟨b, 9, none⟩ = some (S p.bt) := h.cell 9
  rw [hbt] at c9
  have f8 := h.frozen 8
  have f9 := h.frozen 9
  have HLG : Hid (p.lg = LG) := hlg.trans hLG
  have HBT := Lib.hid hbt
  have HSL := Lib.hid hLG
  have HR := Lib.hid h
  have HW := Lib.hid hw
  have HY := Lib.hid hy
  clear h hw hy hbt hlg hLG
  obtain ⟨n, hn⟩ : ∃ n, l.length = n + 1 := ⟨l.length - 1, by have := List.length_pos_iff.2 hne; omega⟩
  have he : List.isEmpty l = false := by cases l with | nil => exact absurd rfl hne | cons _ _ => rfl
  have hlt : (n : Int) < (n : Int) + 1 := by omega
  have hnb : n + 1 ≤ 100000000 := by omega
  have hsz : n < (⟨l.toArray⟩ : ByteArray).size := by show n < l.length; omega
  have hsz0 : 0 < (⟨l.toArray⟩ : ByteArray).size := by show 0 < l.length; omega
  have dc : ((((⟨l.toArray⟩ : ByteArray)[n]'hsz).toNat : Int) == 10) = true := by rw [← last_ten l n hn hsz]; exact hten
  have d0 : ((((⟨l.toArray⟩ : ByteArray)[0]'hsz0).toNat : Int) == 46) = false := by rw [head_dot l hne hsz0]; exact hdot
  have hl2 : y.length + (n + 1) ≤ 100000000 := by omega
  have HZ : Hid ((List.take (n + 1) l).tail = l.drop 1) := by unfold Hid; rw [← hn, List.take_length, List.drop_one]
  clear hten hdot hne
  obtain ⟨u, hu⟩ : ∃ u, bareL l = u := ⟨_, rfl⟩
  rw [hu] at hbare
  have HU := Lib.hid hu
  have du : (u == [46]) = false := beq_eq_false_iff_ne.2 hbare
  clear hu hbare

  rw [HSL.out]
  cases LG
  all_goals
    go_enter Tryz.func41, Tryz.ntmps41

    go_wp2_with fail
    refine (bareR_calls l (by omega) _).mono ?_
    rw [HU.out]
    rintro e w1 ⟨rfl, hb1⟩
    have h1 := HR.out.below hb1
    have H1 := Lib.hid h1
    have HB1 := Lib.hid hb1
    have c81 : w1.cell? ⟨b, 8, none⟩ = some (.bool p.lg) := h1.cell 8
    rw [HLG.out] at c81
    have c91 : w1.cell? ⟨b, 9, none⟩ = some (S p.bt) := h1.cell 9
    rw [HBT.out] at c91
    have f81 := h1.frozen 8
    have f91 := h1.frozen 9
    clear h1 hb1
    go_wp2
    go_ret
    exact ⟨rfl, RStep.of HR.out ((Kept.of_below HB1.out).trans' (line_kept H1.out _ _) fun k q => .inl q) (line_after H1.out HW.out y _ HY.out _) (Below.refl _ _) h8 rfl⟩

set_option maxHeartbeats 2000000 in
set_option maxRecDepth 100000 in
theorem line_V2d (w : World) (h8 : 8 ≤ w.heap.size) (b : Nat) (s : Sess) (p : RP) (F : Nat → Prop) (h : RefAt w b s p F) (hw : s.waits = false) (y l : Bs) (hy : s.body = some y) (hl : y.length + l.length ≤ 100000000) (hne : l ≠ []) (hten : Lib.hasSuffix l [10] = true) (hdot : headDot l = true) (hbare : bareL l ≠ [46]) :
    Calls Tryz.prog 41 #[.pointer (some ⟨b, 0, none⟩), S l] w fun e w' => e = .returned (S []) ∧ RStep b F p.left w w' { s with long := s.long || false, body := some (y ++ l.drop 1) } := by
  obtain ⟨hbt, hlg⟩ := h.body y hy
  obtain ⟨LG, hLG⟩ : ∃ LG, s.long = LG := ⟨_, rfl⟩
  have c8 : w.cell? ⟨b, 8, none⟩ = some (.bool p.lg) := h.cell 8
  rw [hlg, hLG] at c8
  have c9 : w.cell? ⟨b, 9, none⟩ = some (S p.bt) := h.cell 9
  rw [hbt] at c9
  have f8 := h.frozen 8
  have f9 := h.frozen 9
  have HLG : Hid (p.lg = LG) := hlg.trans hLG
  have HBT := Lib.hid hbt
  have HSL := Lib.hid hLG
  have HR := Lib.hid h
  have HW := Lib.hid hw
  have HY := Lib.hid hy
  clear h hw hy hbt hlg hLG
  obtain ⟨n, hn⟩ : ∃ n, l.length = n + 1 := ⟨l.length - 1, by have := List.length_pos_iff.2 hne; omega⟩
  have he : List.isEmpty l = false := by cases l with | nil => exact absurd rfl hne | cons _ _ => rfl
  have hlt : (n : Int) < (n : Int) + 1 := by omega
  have hnb : n + 1 ≤ 100000000 := by omega
  have hsz : n < (⟨l.toArray⟩ : ByteArray).size := by show n < l.length; omega
  have hsz0 : 0 < (⟨l.toArray⟩ : ByteArray).size := by show 0 < l.length; omega
  have dc : ((((⟨l.toArray⟩ : ByteArray)[n]'hsz).toNat : Int) == 10) = true := by rw [← last_ten l n hn hsz]; exact hten
  have d0 : ((((⟨l.toArray⟩ : ByteArray)[0]'hsz0).toNat : Int) == 46) = true := by rw [head_dot l hne hsz0]; exact hdot
  have hl2 : y.length + (n + 1) ≤ 100000000 := by omega
  have HZ : Hid ((List.take (n + 1) l).tail = l.drop 1) := by unfold Hid; rw [← hn, List.take_length, List.drop_one]
  clear hten hdot hne
  obtain ⟨u, hu⟩ : ∃ u, bareL l = u := ⟨_, rfl⟩
  rw [hu] at hbare
  have HU := Lib.hid hu
  have du : (u == [46]) = false := beq_eq_false_iff_ne.2 hbare
  clear hu hbare

  rw [HSL.out]
  cases LG
  all_goals
    go_enter Tryz.func41, Tryz.ntmps41

    go_wp2_with fail
    refine (bareR_calls l (by omega) _).mono ?_
    rw [HU.out]
    rintro e w1 ⟨rfl, hb1⟩
    have h1 := HR.out.below hb1
    have H1 := Lib.hid h1
    have HB1 := Lib.hid hb1
    have c81 : w1.cell? ⟨b, 8, none⟩ = some (.bool p.lg) := h1.cell 8
    rw [HLG.out] at c81
    have c91 : w1.cell? ⟨b, 9, none⟩ = some (S p.bt) := h1.cell 9
    rw [HBT.out] at c91
    have f81 := h1.frozen 8
    have f91 := h1.frozen 9
    clear h1 hb1
    go_wp2
    go_ret
    rw [HZ.out]
    exact ⟨rfl, RStep.of HR.out ((Kept.of_below HB1.out).trans' (line_kept H1.out _ _) fun k q => .inl q) (line_after H1.out HW.out y _ HY.out _) (Below.refl _ _) h8 rfl⟩

theorem dot_line {l : Bs} (hten : Lib.hasSuffix l [10] = true) : l ≠ [] := by rintro rfl; cases hten
section
variable {w : World} {b : Nat} {s : Sess} {p : RP} {F : Nat → Prop}
theorem end_after (h : RefAt w b s p F) : RefAt (w.setCell ⟨b, 7, none⟩ (.bool false)) b { s with body := none } p F :=
  h.put 7 _ (by unfold rcells; rfl) rfl rfl rfl h.kept h.rcp (fun y hy => by cases hy) h.fk h.ft
theorem wait_after (h : RefAt w b s p F) (y : Bs) (hy : s.body = some y) : RefAt ((w.setCell ⟨b, 7, none⟩ (.bool false)).setCell ⟨b, 10, none⟩ (.bool true)) b { s with waits := true } p F :=
  h.after (C := ((rcells s p).setIfInBounds 7 (.bool false)).setIfInBounds 10 (.bool true)) (heap_set (heap_set h.hs _) _) (AtB.set (AtB.set (Kept.refl _ _) 7 _) 10 _) (by unfold rcells; simp) rfl rfl rfl h.kept h.rcp h.body h.fk h.ft
end

set_option maxHeartbeats 2000000 in
set_option maxRecDepth 100000 in
theorem line_E500 (w : World) (h8 : 8 ≤ w.heap.size) (b : Nat) (s : Sess) (p : RP) (F : Nat → Prop) (h : RefAt w b s p F) (hw : s.waits = false) (y l : Bs) (hy : s.body = some y) (hl : y.length + l.length ≤ 100000000) (hten : Lib.hasSuffix l [10] = true) (hbare : bareL l = [46]) (hcond : s.long = true) :
    Calls Tryz.prog 41 #[.pointer (some ⟨b, 0, none⟩), S l] w fun e w' => e = .returned (S (replyL 500)) ∧ RStep b F p.left w w' (resetS { s with body := none }) := by
  have hne := dot_line hten
  obtain ⟨hbt, hlg⟩ := h.body y hy
  have HBT := Lib.hid hbt
  have HLG := Lib.hid hlg
  have HR := Lib.hid h
  have HW := Lib.hid hw
  have HY := Lib.hid hy
  clear h hw hy hbt hlg
  obtain ⟨n, hn⟩ : ∃ n, l.length = n + 1 := ⟨l.length - 1, by have := List.length_pos_iff.2 hne; omega⟩
  have he : List.isEmpty l = false := by cases l with | nil => exact absurd rfl hne | cons _ _ => rfl
  have hlt : (n : Int) < (n : Int) + 1 := by omega
  have hnb : n + 1 ≤ 100000000 := by omega
  have hsz : n < (⟨l.toArray⟩ : ByteArray).size := by show n < l.length; omega
  have dc : ((((⟨l.toArray⟩ : ByteArray)[n]'hsz).toNat : Int) == 10) = true := by rw [← last_ten l n hn hsz]; exact hten
  have HU := Lib.hid hbare
  have HCOND := Lib.hid hcond
  clear hten hbare hne hcond
  go_enter Tryz.func41, Tryz.ntmps41
  go_wp2_with fail
  refine (bareR_calls l (by omega) _).mono ?_
  rw [HU.out]
  rintro e w1 ⟨rfl, hb1⟩
  have h1 := HR.out.below hb1
  have H1 := Lib.hid h1
  have HB1 := Lib.hid hb1
  have c71 : w1.cell? ⟨b, 7, none⟩ = some (.bool (s.body.isSome && !s.waits)) := h1.cell 7
  have c81 : w1.cell? ⟨b, 8, none⟩ = some (.bool p.lg) := h1.cell 8
  rw [HLG.out, HCOND.out] at c81
  have c91 : w1.cell? ⟨b, 9, none⟩ = some (S p.bt) := h1.cell 9
  rw [HBT.out] at c91
  have c01 : w1.cell? ⟨b, 0, none⟩ = some (.int .i64 s.most) := h1.cell 0
  have c101 : w1.cell? ⟨b, 10, none⟩ = some (.bool s.waits) := h1.cell 10
  have f71 := h1.frozen 7
  have f101 := h1.frozen 10
  clear h1 hb1
  have HD := Lib.hid (anew_done (end_after H1.out))
  have HK := Lib.hid ((((Kept.of_below HB1.out).trans' (H1.out.own1 7 (.bool false)) fun k q => .inl q)).trans' (anew_kept (end_after H1.out)) fun k q => .inl q)
  go_wp2_with fail
  refine (anew_calls _ b _ p F (end_after H1.out)).mono ?_
  rintro e w7 ⟨rfl, rfl⟩
  obtain ⟨w8, hw8⟩ : ∃ w8, (((w1.setCell ⟨b, 7, none⟩ (.bool false)).setCell ⟨b, 4, none⟩ (.bool false)).setCell ⟨b, 5, none⟩ (S [])).setCell ⟨b, 6, none⟩ (.slice none 0 0) = w8 := ⟨_, rfl⟩
  rw [hw8] at HD HK ⊢
  clear hw8
  go_wp2_with fail
  refine (replyR_500 _).mono ?_
  rintro e w9 ⟨rfl, hb9⟩
  go_wp2
  go_ret
  exact ⟨rfl, RStep.of HR.out HK.out HD.out hb9 h8 rfl⟩

set_option maxHeartbeats 2000000 in
set_option maxRecDepth 100000 in
theorem line_E552 (w : World) (h8 : 8 ≤ w.heap.size) (b : Nat) (s : Sess) (p : RP) (F : Nat → Prop) (h : RefAt w b s p F) (hw : s.waits = false) (y l : Bs) (hy : s.body = some y) (hl : y.length + l.length ≤ 100000000) (hten : Lib.hasSuffix l [10] = true) (hbare : bareL l = [46]) (hcond : s.long = false ∧ s.most < y.length) :
    Calls Tryz.prog 41 #[.pointer (some ⟨b, 0, none⟩), S l] w fun e w' => e = .returned (S (replyL 552)) ∧ RStep b F p.left w w' (resetS { s with body := none }) := by
  have hne := dot_line hten
  obtain ⟨hbt, hlg⟩ := h.body y hy
  have HBT := Lib.hid hbt
  have HLG := Lib.hid hlg
  have HR := Lib.hid h
  have HW := Lib.hid hw
  have HY := Lib.hid hy
  clear h hw hy hbt hlg
  obtain ⟨n, hn⟩ : ∃ n, l.length = n + 1 := ⟨l.length - 1, by have := List.length_pos_iff.2 hne; omega⟩
  have he : List.isEmpty l = false := by cases l with | nil => exact absurd rfl hne | cons _ _ => rfl
  have hlt : (n : Int) < (n : Int) + 1 := by omega
  have hnb : n + 1 ≤ 100000000 := by omega
  have hsz : n < (⟨l.toArray⟩ : ByteArray).size := by show n < l.length; omega
  have dc : ((((⟨l.toArray⟩ : ByteArray)[n]'hsz).toNat : Int) == 10) = true := by rw [← last_ten l n hn hsz]; exact hten
  have HU := Lib.hid hbare
  have HCOND := Lib.hid hcond
  clear hten hbare hne hcond
  go_enter Tryz.func41, Tryz.ntmps41
  go_wp2_with fail
  refine (bareR_calls l (by omega) _).mono ?_
  rw [HU.out]
  rintro e w1 ⟨rfl, hb1⟩
  have h1 := HR.out.below hb1
  have H1 := Lib.hid h1
  have HB1 := Lib.hid hb1
  have c71 : w1.cell? ⟨b, 7, none⟩ = some (.bool (s.body.isSome && !s.waits)) := h1.cell 7
  have c81 : w1.cell? ⟨b, 8, none⟩ = some (.bool p.lg) := h1.cell 8
  rw [HLG.out, HCOND.out.1] at c81
  have c91 : w1.cell? ⟨b, 9, none⟩ = some (S p.bt) := h1.cell 9
  rw [HBT.out] at c91
  have c01 : w1.cell? ⟨b, 0, none⟩ = some (.int .i64 s.most) := h1.cell 0
  have c101 : w1.cell? ⟨b, 10, none⟩ = some (.bool s.waits) := h1.cell 10
  have f71 := h1.frozen 7
  have f101 := h1.frozen 10
  clear h1 hb1
  have dm : decide (s.most < y.length) = true := decide_eq_true HCOND.out.2
  obtain ⟨w2, hw2⟩ : ∃ w2, w1.setCell ⟨b, 7, none⟩ (.bool false) = w2 := ⟨_, rfl⟩
  have hE := end_after H1.out
  have hK := ((Kept.of_below HB1.out).trans' (H1.out.own1 7 (.bool false)) fun k q => .inl q)
  rw [hw2] at hE hK
  have hE2 := hE.below ((Below.refl _ _).drew)
  have hK2 := hK.drew
  have c02 : w2.drew.cell? ⟨b, 0, none⟩ = some (.int .i64 s.most) := hE2.cell 0
  have c92 : w2.drew.cell? ⟨b, 9, none⟩ = some (S p.bt) := hE2.cell 9
  rw [HBT.out] at c92
  have hS : w2.drew.cell? ⟨b, 9, none⟩ = some (S y) ∧ w2.drew.cell? ⟨b, 0, none⟩ = some (.int .i64 s.most) := ⟨c92, c02⟩
  have HE2 := Lib.hid hE2
  have HK2 := Lib.hid hK2
  have HW2 := Lib.hid hw2
  clear hE hK hE2 hK2 hw2
  go_wp2_with fail
  rw [HW2.out]
  go_region_held3 (fun w' => w'.cell? ⟨b, 9, none⟩ = some (S y) ∧ w'.cell? ⟨b, 0, none⟩ = some (.int .i64 s.most)) (first | assumption | exact hS) (fail)
  have HD := Lib.hid (anew_done HE2.out)
  have HK := Lib.hid (HK2.out.trans' (anew_kept HE2.out) fun k q => .inl q)
  go_wp2_with fail
  refine (anew_calls _ b _ p F HE2.out).mono ?_
  rintro e w7 ⟨rfl, rfl⟩
  obtain ⟨w8, hw8⟩ : ∃ w8, ((w2.drew.setCell ⟨b, 4, none⟩ (.bool false)).setCell ⟨b, 5, none⟩ (S [])).setCell ⟨b, 6, none⟩ (.slice none 0 0) = w8 := ⟨_, rfl⟩
  rw [hw8] at HD HK
  first | rw [hw8] | skip
  go_wp2_with fail
  refine (replyR_552 _).mono ?_
  rintro e w9 ⟨rfl, hb9⟩
  go_wp2
  go_ret
  exact ⟨rfl, RStep.of HR.out HK.out HD.out hb9 h8 rfl⟩


set_option maxHeartbeats 2000000 in
set_option maxRecDepth 100000 in
theorem line_Ewait (w : World) (h8 : 8 ≤ w.heap.size) (b : Nat) (s : Sess) (p : RP) (F : Nat → Prop) (h : RefAt w b s p F) (hw : s.waits = false) (y l : Bs) (hy : s.body = some y) (hl : y.length + l.length ≤ 100000000) (hten : Lib.hasSuffix l [10] = true) (hbare : bareL l = [46]) (hcond : s.long = false ∧ ¬ s.most < y.length) :
    Calls Tryz.prog 41 #[.pointer (some ⟨b, 0, none⟩), S l] w fun e w' => e = .returned (S []) ∧ RStep b F p.left w w' { s with waits := true } := by
  have hne := dot_line hten
  obtain ⟨hbt, hlg⟩ := h.body y hy
  have HBT := Lib.hid hbt
  have HLG := Lib.hid hlg
  have HR := Lib.hid h
  have HW := Lib.hid hw
  have HY := Lib.hid hy
  clear h hw hy hbt hlg
  obtain ⟨n, hn⟩ : ∃ n, l.length = n + 1 := ⟨l.length - 1, by have := List.length_pos_iff.2 hne; omega⟩
  have he : List.isEmpty l = false := by cases l with | nil => exact absurd rfl hne | cons _ _ => rfl
  have hlt : (n : Int) < (n : Int) + 1 := by omega
  have hnb : n + 1 ≤ 100000000 := by omega
  have hsz : n < (⟨l.toArray⟩ : ByteArray).size := by show n < l.length; omega
  have dc : ((((⟨l.toArray⟩ : ByteArray)[n]'hsz).toNat : Int) == 10) = true := by rw [← last_ten l n hn hsz]; exact hten
  have HU := Lib.hid hbare
  have HCOND := Lib.hid hcond
  clear hten hbare hne hcond
  go_enter Tryz.func41, Tryz.ntmps41
  go_wp2_with fail
  refine (bareR_calls l (by omega) _).mono ?_
  rw [HU.out]
  rintro e w1 ⟨rfl, hb1⟩
  have h1 := HR.out.below hb1
  have H1 := Lib.hid h1
  have HB1 := Lib.hid hb1
  have c71 : w1.cell? ⟨b, 7, none⟩ = some (.bool (s.body.isSome && !s.waits)) := h1.cell 7
  have c81 : w1.cell? ⟨b, 8, none⟩ = some (.bool p.lg) := h1.cell 8
  rw [HLG.out, HCOND.out.1] at c81
  have c91 : w1.cell? ⟨b, 9, none⟩ = some (S p.bt) := h1.cell 9
  rw [HBT.out] at c91
  have c01 : w1.cell? ⟨b, 0, none⟩ = some (.int .i64 s.most) := h1.cell 0
  have c101 : w1.cell? ⟨b, 10, none⟩ = some (.bool s.waits) := h1.cell 10
  have f71 := h1.frozen 7
  have f101 := h1.frozen 10
  clear h1 hb1
  have dm : decide (s.most < y.length) = false := decide_eq_false HCOND.out.2
  obtain ⟨w2, hw2⟩ : ∃ w2, w1.setCell ⟨b, 7, none⟩ (.bool false) = w2 := ⟨_, rfl⟩
  have hE := end_after H1.out
  have hK := ((Kept.of_below HB1.out).trans' (H1.out.own1 7 (.bool false)) fun k q => .inl q)
  rw [hw2] at hE hK
  have hE2 := hE.below ((Below.refl _ _).drew)
  have hK2 := hK.drew
  have c02 : w2.drew.cell? ⟨b, 0, none⟩ = some (.int .i64 s.most) := hE2.cell 0
  have c92 : w2.drew.cell? ⟨b, 9, none⟩ = some (S p.bt) := hE2.cell 9
  rw [HBT.out] at c92
  have hS : w2.drew.cell? ⟨b, 9, none⟩ = some (S y) ∧ w2.drew.cell? ⟨b, 0, none⟩ = some (.int .i64 s.most) := ⟨c92, c02⟩
  have HE2 := Lib.hid hE2
  have HK2 := Lib.hid hK2
  have HW2 := Lib.hid hw2
  clear hE hK hE2 hK2 hw2
  go_wp2_with fail
  rw [HW2.out]
  go_region_held3 (fun w' => w'.cell? ⟨b, 9, none⟩ = some (S y) ∧ w'.cell? ⟨b, 0, none⟩ = some (.int .i64 s.most)) (first | assumption | exact hS) (fail)
  have c102 : w2.drew.cell? ⟨b, 10, none⟩ = some (.bool s.waits) := HE2.out.cell 10
  have f102 := HE2.out.frozen 10
  go_wp2
  go_ret
  have hW := wait_after H1.out y HY.out
  rw [HW2.out] at hW
  have hW2 : RefAt (w2.drew.setCell ⟨b, 10, none⟩ (.bool true)) b { s with waits := true } p F := hW.below ((Below.refl _ _).drew)
  exact ⟨rfl, RStep.of HR.out (HK2.out.trans' (HE2.out.own1 10 (.bool true)) fun k q => .inl q) hW2 (Below.refl _ _) h8 rfl⟩


/-- A line of a message. -/
theorem lineR_calls (w : World) (h8 : 8 ≤ w.heap.size) (b : Nat) (s : Sess) (p : RP) (F : Nat → Prop) (h : RefAt w b s p F) (hw : s.waits = false) (y l : Bs) (hy : s.body = some y) (hl : y.length + l.length ≤ 100000000) :
    Calls Tryz.prog 41 #[.pointer (some ⟨b, 0, none⟩), S l] w fun e w' => e = .returned (S (lineS s y l).1) ∧ RStep b F p.left w w' (lineS s y l).2 := by
  have hs : lineS s y l = if Lib.hasSuffix l [10] = false ∨ bareL l ≠ [46] then ([], { s with long := s.long || !Lib.hasSuffix l [10], body := some (y ++ (if headDot l then l.drop 1 else l)) }) else
      if s.long then (replyL 500, resetS { s with body := none }) else if s.most < y.length then (replyL 552, resetS { s with body := none }) else ([], { s with waits := true }) := by
    unfold lineS; rw [dot_cut]
  rw [hs]
  by_cases hl0 : l = []
  · have := line_V0 w h8 b s p F h hw y l hy hl hl0
    subst hl0
    exact this
  cases hten : Lib.hasSuffix l [10]
  · rw [if_pos (.inl rfl)]
    cases hd : headDot l
    · exact line_V1n w h8 b s p F h hw y l hy hl hl0 hten hd
    · exact line_V1d w h8 b s p F h hw y l hy hl hl0 hten hd
  · by_cases hb : bareL l = [46]
    · rw [if_neg (by rintro (q | q); cases q; exact q hb)]
      rcases Bool.eq_false_or_eq_true s.long with hlg | hlg
      · rw [if_pos hlg]
        exact line_E500 w h8 b s p F h hw y l hy hl hten hb hlg
      · rw [if_neg (by rw [hlg]; simp)]
        by_cases hm : s.most < y.length
        · rw [if_pos hm]
          exact line_E552 w h8 b s p F h hw y l hy hl hten hb ⟨hlg, hm⟩
        · rw [if_neg hm]
          exact line_Ewait w h8 b s p F h hw y l hy hl hten hb ⟨hlg, hm⟩
    · rw [if_pos (.inr hb)]
      cases hd : headDot l
      · exact line_V2n w h8 b s p F h hw y l hy hl hl0 hten hd hb
      · exact line_V2d w h8 b s p F h hw y l hy hl hl0 hten hd hb
end Go.Proofs.YtapanjfheddfnaaGreatDoor
end
section
/- The reference's MAIL and RCPT. -/
namespace Go.Proofs.YtapanjfheddfnaaGreatDoor
open Go.RowKit Go.Shelf
attribute [local go_sem high] ext_to ext_from
attribute [local go_sem] ext_list app_list size_list

theorem path_len {s a r : Bs} (h : pathB s = some (a, r)) : a.length ≤ s.length ∧ r.length ≤ s.length := by
  unfold pathB at h
  cases s with
  | nil => cases h
  | cons x t =>
    dsimp only at h
    split at h
    · have e := take_drop_len pc t
      cases hd : t.dropWhile pc with
      | nil => rw [hd] at h; cases h
      | cons y q =>
        rw [hd] at h
        dsimp only at h
        split at h
        · cases h
          rw [hd] at e
          simp at e ⊢
          omega
        · cases h
    · cases h
theorem path_parts (s : Bs) : ∃ a r two, pathW (pathB s) = #[S a, S r, .bool two] ∧ a.length ≤ s.length ∧ r.length ≤ s.length ∧ (two = true → pathB s = some (a, r)) ∧ (two = false → pathB s = none) := by
  cases h : pathB s with
  | none => exact ⟨[], [], false, rfl, by simp, by simp, fun q => by (cases q), fun _ => rfl⟩
  | some p =>
    obtain ⟨a, r⟩ := p
    obtain ⟨h1, h2⟩ := path_len h
    exact ⟨a, r, true, rfl, h1, h2, fun _ => rfl, fun q => by (cases q)⟩
theorem sender_after {w : World} {b : Nat} {s : Sess} {p : RP} {F : Nat → Prop} (h : RefAt w b s p F) (a : Bs) : RefAt ((w.setCell ⟨b, 4, none⟩ (.bool true)).setCell ⟨b, 5, none⟩ (S a)) b { s with sender := some a } p F :=
  h.after (C := ((rcells s p).setIfInBounds 4 (.bool true)).setIfInBounds 5 (S a)) (heap_set (heap_set h.hs _) _) (AtB.set (AtB.set (Kept.refl _ _) 4 _) 5 _) rfl rfl rfl rfl h.kept h.rcp h.body h.fk h.ft
theorem sender_kept {w : World} {b : Nat} {s : Sess} {p : RP} {F : Nat → Prop} (h : RefAt w b s p F) (a : Bs) : Kept F w ((w.setCell ⟨b, 4, none⟩ (.bool true)).setCell ⟨b, 5, none⟩ (S a)) := h.own (AtB.set (AtB.set (Kept.refl _ _) 4 _) 5 _)

set_option maxHeartbeats 8000000 in
set_option maxRecDepth 100000 in
theorem mailR_calls (w : World) (h8 : 8 ≤ w.heap.size) (b : Nat) (s : Sess) (p : RP) (F : Nat → Prop) (h : RefAt w b s p F) (rest : Bs) (hrl : rest.length ≤ 1000000) :
    Calls Tryz.prog 77 #[.pointer (some ⟨b, 0, none⟩), S rest] w fun e w' => e = .returned (S (mailR s rest).1) ∧ RStep b F p.left w w' (mailR s rest).2 := by
  obtain ⟨R, hR⟩ : ∃ R, mailR s rest = R := ⟨_, rfl⟩
  rw [hR]
  have H := Lib.hid h
  have k3 : w.cell? ⟨b, 3, none⟩ = some (.bool s.greeted) := h.cell 3
  have k4 : w.cell? ⟨b, 4, none⟩ = some (.bool s.sender.isSome) := h.cell 4
  clear h
  by_cases hg : s.greeted = false ∨ s.sender ≠ none
  · have HR : Hid (R = (replyL 503, s)) := by unfold Hid; rw [← hR]; unfold mailR; rw [if_pos hg]
    clear hR
    cases hgr : s.greeted
    · rw [hgr] at k3
      clear hg
      have HE : Hid (R = (replyL 503, s)) := by
        unfold Hid
        exact HR.out
      go_enter Tryz.func77, Tryz.ntmps77
      go_wp2_with fail
      refine (replyR_503 _).mono ?_
      rintro e w9 ⟨rfl, hb9⟩
      go_wp2
      go_ret
      rw [HE.out]
      exact ⟨rfl, RStep.same H.out (below_then' (Below.refl _ _) hb9) h8⟩
    · rw [hgr] at k3
      have hsn : s.sender.isSome = true := by
        rcases hg with q | q
        · rw [hgr] at q; cases q
        · cases hq : s.sender with
          | none => exact absurd hq q
          | some _ => rfl
      rw [hsn] at k4
      clear hg
      have HE : Hid (R = (replyL 503, s)) := by
        unfold Hid
        exact HR.out
      go_enter Tryz.func77, Tryz.ntmps77
      go_wp2_with fail
      refine (replyR_503 _).mono ?_
      rintro e w9 ⟨rfl, hb9⟩
      go_wp2
      go_ret
      rw [HE.out]
      exact ⟨rfl, RStep.same H.out (below_then' (Below.refl _ _) hb9) h8⟩
  · have hgr : s.greeted = true := by cases hq : s.greeted <;> simp_all
    have hsn : s.sender = none := by cases hq : s.sender <;> simp_all
    have hs2 : s.sender.isSome = false := by rw [hsn]; rfl
    have HR0 : Hid (R = mailO s (pathR rest [70, 82, 79, 77, 58])) := by unfold Hid; rw [← hR]; unfold mailR; rw [if_neg hg]
    rw [hgr] at k3
    rw [hs2] at k4
    clear hR hg hgr hsn hs2
    obtain ⟨x, one, hx⟩ : ∃ x one, behindB rest [70, 82, 79, 77, 58] = (x, one) := ⟨_, _, rfl⟩
    have hxl : x.length ≤ rest.length := by have := behind_len rest [70, 82, 79, 77, 58]; rw [hx] at this; exact this
    have htl := trim_len x
    have HT : Hid (pathR rest [70, 82, 79, 77, 58] = if one then pathB (Lib.trimS x blanks) else none) := by unfold Hid pathR; rw [hx]
    have HX := Lib.hid hx
    clear hx
    obtain ⟨t, ht⟩ : ∃ t, Lib.trimS x blanks = t := ⟨_, rfl⟩
    rw [ht] at HT htl
    have HTT := Lib.hid ht
    clear ht
    obtain ⟨a, y, two, hpw, hal, hyl, htw, htf⟩ := path_parts t
    have HPW := Lib.hid hpw
    have HTW := Lib.hid htw
    have HTF := Lib.hid htf
    clear hpw htw htf
    obtain ⟨z, three, hgv⟩ : ∃ z three, givW y = (z, three) := ⟨_, _, rfl⟩
    have HGB : Hid (givB y = if three then some z else none) := by unfold Hid; rw [giv_w, hgv]
    have HGV := Lib.hid hgv
    clear hgv
    go_enter Tryz.func77, Tryz.ntmps77
    go_wp2_with fail
    refine (behindR_calls rest [70, 82, 79, 77, 58] (by omega) _).mono ?_
    rw [HX.out]
    rintro e w1 ⟨rfl, hb1⟩
    have HB1 := Lib.hid hb1
    clear hb1
    go_wp2_with fail
    refine (trimR_calls x (by omega) _).mono ?_
    rw [HTT.out]
    rintro e w2 ⟨rfl, hb2⟩
    have HB2 := Lib.hid (below_then' HB1.out hb2)
    clear hb2 HB1
    go_wp2_with fail
    refine (pathR_calls t (by omega) _).mono ?_
    rw [HPW.out]
    rintro e w3 ⟨rfl, hb3⟩
    have HB3 := Lib.hid (below_then' HB2.out hb3)
    clear hb3 HB2
    go_wp2_with fail
    refine (givenR_calls y (by omega) _).mono ?_
    rw [HGV.out]
    rintro e w4 ⟨rfl, hb4⟩
    have HB4 := Lib.hid (below_then' HB3.out hb4)
    clear hb4 HB3
    cases one
    ·
      have HE : Hid (R = (replyL 501, s)) := by
        unfold Hid
        rw [HR0.out, HT.out]; rfl
      go_wp2_with fail
      refine (replyR_501 _).mono ?_
      rintro e w9 ⟨rfl, hb9⟩
      go_wp2
      go_ret
      rw [HE.out]
      exact ⟨rfl, RStep.same H.out (below_then' HB4.out hb9) h8⟩
    · cases two
      ·
        have HE : Hid (R = (replyL 501, s)) := by
          unfold Hid
          rw [HR0.out, HT.out, if_pos rfl, HTF.out rfl]; rfl
        go_wp2_with fail
        refine (replyR_501 _).mono ?_
        rintro e w9 ⟨rfl, hb9⟩
        go_wp2
        go_ret
        rw [HE.out]
        exact ⟨rfl, RStep.same H.out (below_then' HB4.out hb9) h8⟩
      · have HP : Hid (mailO s (pathR rest [70, 82, 79, 77, 58]) = mailQ s a (givB y)) := by unfold Hid; rw [HT.out, if_pos rfl, HTW.out rfl]; rfl
        have HR : Hid (R = mailO s (pathR rest [70, 82, 79, 77, 58])) := HR0
        cases three
        ·
          have HE : Hid (R = (replyL 501, s)) := by
            unfold Hid
            rw [HR.out, HP.out, HGB.out]; rfl
          go_wp2_with fail
          refine (replyR_501 _).mono ?_
          rintro e w9 ⟨rfl, hb9⟩
          go_wp2
          go_ret
          rw [HE.out]
          exact ⟨rfl, RStep.same H.out (below_then' HB4.out hb9) h8⟩
        · have HQ : Hid (mailQ s a (givB y) = mailQ s a (some z)) := by unfold Hid; rw [HGB.out]; rfl
          by_cases ha : a = []
          · subst ha
            have HA : Hid (¬ (([] : Bs) ≠ [] ∧ mayB [] = false)) := fun q => q.1 rfl
            have hN := H.out.below HB4.out
            have HN := Lib.hid hN
            have HSZ : Hid (R = if (s.most : Int) < z then (replyL 552, s) else (replyL 250, { s with sender := some [] })) := by unfold Hid; rw [HR.out, HP.out, HQ.out]; unfold mailQ; dsimp only; rw [if_neg HA.out]
            have c0 : w4.cell? ⟨b, 0, none⟩ = some (.int .i64 s.most) := hN.cell 0
            have c4 : w4.cell? ⟨b, 4, none⟩ = some (.bool s.sender.isSome) := hN.cell 4
            have c5 : w4.cell? ⟨b, 5, none⟩ = some (S (s.sender.getD [])) := hN.cell 5
            have f4 := hN.frozen 4
            have f5 := hN.frozen 5
            have HD := Lib.hid (sender_after hN [])
            have HK := Lib.hid (sender_kept hN [])
            clear hN
            by_cases hz : (s.most : Int) < z
            · have dz : decide ((s.most : Int) < z) = true := decide_eq_true hz
              have HE : Hid (R = (replyL 552, s)) := by
                unfold Hid
                rw [HSZ.out, if_pos hz]
              go_wp2_with fail
              refine (replyR_552 _).mono ?_
              rintro e w9 ⟨rfl, hb9⟩
              go_wp2
              go_ret
              rw [HE.out]
              exact ⟨rfl, RStep.same H.out (below_then' HB4.out hb9) h8⟩
            · have dz : decide ((s.most : Int) < z) = false := decide_eq_false hz
              have HE : Hid (R = (replyL 250, { s with sender := some [] })) := by unfold Hid; rw [HSZ.out, if_neg hz]
              clear hz
              go_wp2_with fail
              obtain ⟨w7, hw7⟩ : ∃ w7, (w4.setCell ⟨b, 4, none⟩ (.bool true)).setCell ⟨b, 5, none⟩ (S []) = w7 := ⟨_, rfl⟩
              rw [hw7] at HD HK
              first | rw [hw7] | skip
              refine (replyR_250 _).mono ?_
              rintro e w9 ⟨rfl, hb9⟩
              go_wp2
              go_ret
              rw [HE.out]
              exact ⟨rfl, RStep.of H.out ((Kept.of_below HB4.out).trans' HK.out fun k q => .inl q) HD.out hb9 h8 rfl⟩
          · have hem : List.isEmpty a = false := by simpa using ha
            cases hm : mayB a
            · have HM := Lib.hid hm
              have H51 : Hid (R = (replyL 501, s)) := by unfold Hid; rw [HR.out, HP.out, HQ.out]; unfold mailQ; dsimp only; rw [if_pos ⟨ha, hm⟩]
              clear hm ha
              go_wp2_with fail
              refine (mayR_calls a (by omega) _).mono ?_
              rw [HM.out]
              rintro e w5 ⟨rfl, hb5⟩
              have HB5 := Lib.hid (below_then' HB4.out hb5)
              clear hb5
              have HE : Hid (R = (replyL 501, s)) := by
                unfold Hid
                exact H51.out
              go_wp2_with fail
              refine (replyR_501 _).mono ?_
              rintro e w9 ⟨rfl, hb9⟩
              go_wp2
              go_ret
              rw [HE.out]
              exact ⟨rfl, RStep.same H.out (below_then' HB5.out hb9) h8⟩
            · have HM := Lib.hid hm
              have HSZ : Hid (R = if (s.most : Int) < z then (replyL 552, s) else (replyL 250, { s with sender := some a })) := by unfold Hid; rw [HR.out, HP.out, HQ.out]; unfold mailQ; dsimp only; rw [if_neg (fun q => by rw [hm] at q; cases q.2)]
              clear hm ha
              go_wp2_with fail
              refine (mayR_calls a (by omega) _).mono ?_
              rw [HM.out]
              rintro e w5 ⟨rfl, hb5⟩
              have HB5 := Lib.hid (below_then' HB4.out hb5)
              clear hb5
              have hN := H.out.below HB5.out
              have HN := Lib.hid hN
              have c0 : w5.cell? ⟨b, 0, none⟩ = some (.int .i64 s.most) := hN.cell 0
              have c4 : w5.cell? ⟨b, 4, none⟩ = some (.bool s.sender.isSome) := hN.cell 4
              have c5 : w5.cell? ⟨b, 5, none⟩ = some (S (s.sender.getD [])) := hN.cell 5
              have f4 := hN.frozen 4
              have f5 := hN.frozen 5
              have HD := Lib.hid (sender_after hN a)
              have HK := Lib.hid (sender_kept hN a)
              clear hN
              by_cases hz : (s.most : Int) < z
              · have dz : decide ((s.most : Int) < z) = true := decide_eq_true hz
                have HE : Hid (R = (replyL 552, s)) := by
                  unfold Hid
                  rw [HSZ.out, if_pos hz]
                go_wp2_with fail
                refine (replyR_552 _).mono ?_
                rintro e w9 ⟨rfl, hb9⟩
                go_wp2
                go_ret
                rw [HE.out]
                exact ⟨rfl, RStep.same H.out (below_then' HB5.out hb9) h8⟩
              · have dz : decide ((s.most : Int) < z) = false := decide_eq_false hz
                have HE : Hid (R = (replyL 250, { s with sender := some a })) := by unfold Hid; rw [HSZ.out, if_neg hz]
                clear hz
                go_wp2_with fail
                obtain ⟨w7, hw7⟩ : ∃ w7, (w5.setCell ⟨b, 4, none⟩ (.bool true)).setCell ⟨b, 5, none⟩ (S a) = w7 := ⟨_, rfl⟩
                rw [hw7] at HD HK
                first | rw [hw7] | skip
                refine (replyR_250 _).mono ?_
                rintro e w9 ⟨rfl, hb9⟩
                go_wp2
                go_ret
                rw [HE.out]
                exact ⟨rfl, RStep.of H.out ((Kept.of_below HB5.out).trans' HK.out fun k q => .inl q) HD.out hb9 h8 rfl⟩
end Go.Proofs.YtapanjfheddfnaaGreatDoor
end
section
/- The reference's RCPT. -/
namespace Go.Proofs.YtapanjfheddfnaaGreatDoor
open Go.RowKit Go.Shelf
attribute [local go_sem high] ext_to ext_from
attribute [local go_sem] ext_list app_list size_list

/-- What RCPT does at an address that may stand. -/
def rcptQ (s : Sess) (a : Bs) : Bs × Sess := if s.rcp.contains a then (replyL 250, s) else if 16 ≤ s.rcp.length then (replyL 452, s) else (replyL 250, { s with rcp := s.rcp ++ [a] })
def rcptO (s : Sess) : Option (Bs × Bs) → Bs × Sess
  | none => (replyL 501, s)
  | some (a, y) => if y ≠ [] ∨ mayB a = false then (replyL 501, s) else rcptQ s a
theorem rcptR_o (s : Sess) (rest : Bs) : rcptR s rest = if s.sender = none then (replyL 503, s) else rcptO s (pathR rest [84, 79, 58]) := by
  unfold rcptR
  split
  · rfl
  · cases pathR rest [84, 79, 58] with
    | none => rfl
    | some p => rfl
theorem rcp_after {w w' : World} {b : Nat} {s : Sess} {p : RP} {F : Nat → Prop} (h : RefAt w b s p F) (h8 : 8 ≤ w.heap.size) (hb : Below w.heap.size w w') (v : Value) (l : List Bs) (hr : RowAt w' 9 v (strsV l)) (hv : ∀ k, v.ownBlock = some k → w.heap.size ≤ k) :
    Kept F w (w'.setCell ⟨b, 6, none⟩ v) ∧ RefAt (w'.setCell ⟨b, 6, none⟩ v) b { s with rcp := l } { p with tv := v } (Fresh F w (w'.setCell ⟨b, 6, none⟩ v)) := by
  have h1 := h.below hb
  have z := hb.size
  have zs : (w'.setCell ⟨b, 6, none⟩ v).heap.size = w'.heap.size := by simp [World.setCell]
  have h2 : RefAt w' b s p (Fresh F w w') := h1.wide (fun k q => .inl q) (fun k q => by
    rcases q with q | q
    · have := h.blk k q; omega
    · omega)
  have h3 : RefAt (w'.setCell ⟨b, 6, none⟩ v) b { s with rcp := l } { p with tv := v } (Fresh F w w') := h2.put 6 v rfl rfl rfl rfl h2.kept hr h.body h2.fk (fun k q => .inr ⟨hv k q, (hr.lt k q).2⟩)
  refine ⟨(Kept.of_below hb).setCell (p := ⟨b, 6, none⟩) (.inl h.fb) v, h3.wide (fun k q => q.imp id fun q => ⟨q.1, by omega⟩) (fun k q => ?_)⟩
  rcases q with q | q
  · have := h.blk k q; omega
  · omega

set_option maxRecDepth 100000 in
/-- 'append([]string{}, l...)': in new memory. -/
theorem clone_new (w : World) (h8 : 8 ≤ w.heap.size) (v : Value) (l : List Bs) (h : RowAt w 9 v (strsV l)) (hl : l.length ≤ 1000000) :
    ∃ a7 c7 w7, (Builtin.append_ #[22, 22] 22 #[.slice (some ⟨w.heap.size, 0, none⟩) 0 0, v]).run Tryz.prog (w.alloc (Obj.cells #[] 9)) = .ok (.slice a7 l.length c7) w7 ∧ RowAt w7 9 (.slice a7 l.length c7) (strsV l) ∧ (∀ k, (Value.slice a7 l.length c7).ownBlock = some k → w.heap.size ≤ k) ∧ Below w.heap.size w w7 := by
  have hb : Below w.heap.size w (w.alloc (Obj.cells #[] 9)) := (Below.refl _ _).alloc (Nat.le_refl _) _
  have h0 : RowAt (w.alloc (Obj.cells #[] 9)) 9 (.slice (some ⟨w.heap.size, 0, none⟩) 0 0) [] := .inr ⟨w.heap.size, 0, 0, #[], rfl, h8, heap_alloc_new _ _, by simp, by simp, by simp, by simp⟩
  have h1 : RowAt (w.alloc (Obj.cells #[] 9)) 9 v (strsV l) := h.heap fun k q => hb.block k (h.lt k q).2
  obtain ⟨v7, w7, happ, hr7, hg7, hv7⟩ := RowAt.append (P := Tryz.prog) h0 (by have := hb.size; omega) 22 22 22 _ _ 16 Tryz.underlying22 (by rfl) (by rfl) (by rfl) (by rfl) (by rfl) v l.length (strsV l) h1.src (by simp [maxLen]; omega) (by simp; omega)
  rw [List.nil_append] at hr7
  obtain ⟨a7, c7, rfl⟩ := hr7.slice
  rw [strsV_len] at happ hr7 hv7
  have own : ∀ k, (Value.slice a7 l.length c7).ownBlock = some k → w.heap.size ≤ k := fun k q => by
    rcases hv7 k q with e | e
    · simp [Value.ownBlock] at e; omega
    · have := hb.size; omega
  refine ⟨a7, c7, w7, happ, hr7, own, ?_⟩
  have hk : Kept NoBlk w w7 := Kept.grown (Kept.of_below hb) hg7 (fun k q => .inr (by simp [Value.ownBlock] at q; omega))
  exact hk.below fun i q => q.elim
theorem wpList_yield {P : Program} {ops : Array Oper} {rest : List Oper} {o : Oper} {a : Act} {Q : Exit → Act → World → Prop} {w w' : World} {v : Value} (hg : o.guard = none) (hrun : (execOp a.eval o).run P w = .ok (.value v) w')
    (hK : wpList P ops Q rest (a.put o.dst v) w') : wpList P ops Q (o :: rest) a w := by
  refine wpList_plain hg fun K' hK' => ?_
  unfold Oper.wp
  rw [hrun]
  exact hK' _ _ hK
/-- 'append(append([]string{}, l...), a)'. -/
theorem clone_put (w : World) (h8 : 8 ≤ w.heap.size) (v : Value) (l : List Bs) (h : RowAt w 9 v (strsV l)) (hl : l.length ≤ 1000000) (a : Bs) :
    ∃ a7 c7 w7 a9 c9 w9, (Builtin.append_ #[22, 22] 22 #[.slice (some ⟨w.heap.size, 0, none⟩) 0 0, v]).run Tryz.prog (w.alloc (Obj.cells #[] 9)) = .ok (.slice a7 l.length c7) w7 ∧
      (Builtin.append_ #[22, 22] 22 #[.slice a7 l.length c7, .slice (some ⟨w7.heap.size, 0, none⟩) 1 1]).run Tryz.prog (w7.alloc (Obj.cells #[S a] 9)) = .ok (.slice a9 (l.length + 1) c9) w9 ∧
      RowAt w9 9 (.slice a9 (l.length + 1) c9) (strsV (l ++ [a])) ∧ (∀ k, (Value.slice a9 (l.length + 1) c9).ownBlock = some k → w.heap.size ≤ k) ∧ Below w.heap.size w w9 := by
  obtain ⟨a7, c7, w7, happ, hr7, own7, hb7⟩ := clone_new w h8 v l h hl
  have z7 := hb7.size
  have hb8 : Below w7.heap.size w7 (w7.alloc (Obj.cells #[S a] 9)) := (Below.refl _ _).alloc (Nat.le_refl _) _
  have hr8 : RowAt (w7.alloc (Obj.cells #[S a] 9)) 9 (.slice a7 l.length c7) (strsV l) := hr7.heap fun k q => hb8.block k (hr7.lt k q).2
  obtain ⟨v9, w9, happ2, hr9, hg9, hv9⟩ := hr8.put (by have := hb8.size; omega) hl a w7.heap.size (World.cell?_alloc_new _ _ _ 0)
  obtain ⟨a9, c9, rfl⟩ := hr9.slice
  rw [strsV_len, List.length_append, List.length_singleton] at happ2 hr9 hv9
  refine ⟨a7, c7, w7, a9, c9, w9, happ, happ2, hr9, fun k q => ?_, ?_⟩
  · rcases hv9 k q with e | e
    · exact own7 k e
    · have := hb8.size; omega
  · have hk : Kept NoBlk w w9 := Kept.grown (Kept.of_below (hb7.trans (hb8.mono z7))) hg9 (fun k q => .inr (own7 k q))
    exact hk.below fun i q => q.elim

set_option maxHeartbeats 8000000 in
set_option maxRecDepth 100000 in
theorem rcptR_calls (w : World) (h8 : 8 ≤ w.heap.size) (b : Nat) (s : Sess) (p : RP) (F : Nat → Prop) (h : RefAt w b s p F) (rest : Bs) (hrl : rest.length ≤ 1000000) (hto : s.rcp.length ≤ 1000) :
    Calls Tryz.prog 78 #[.pointer (some ⟨b, 0, none⟩), S rest] w fun e w' => e = .returned (S (rcptR s rest).1) ∧ RStep b F p.left w w' (rcptR s rest).2 := by
  obtain ⟨R, hR⟩ : ∃ R, rcptR s rest = R := ⟨_, rfl⟩
  rw [hR]
  rw [rcptR_o] at hR
  have H := Lib.hid h
  have k4 : w.cell? ⟨b, 4, none⟩ = some (.bool s.sender.isSome) := h.cell 4
  clear h
  cases hsn : s.sender with
  | none =>
    have HR : Hid (R = (replyL 503, s)) := by unfold Hid; rw [← hR, if_pos hsn]
    rw [hsn] at k4
    clear hR hsn
    have HE : Hid (R = (replyL 503, s)) := by
      unfold Hid
      exact HR.out
    go_enter Tryz.func78, Tryz.ntmps78
    go_wp2_with fail
    refine (replyR_503 _).mono ?_
    rintro e w9 ⟨rfl, hb9⟩
    go_wp2
    go_ret
    rw [HE.out]
    exact ⟨rfl, RStep.same H.out (below_then' (Below.refl _ _) hb9) h8⟩
  | some sn =>
    have HR : Hid (R = rcptO s (pathR rest [84, 79, 58])) := by unfold Hid; rw [← hR, if_neg (by rw [hsn]; simp)]
    rw [hsn] at k4
    clear hR hsn
    obtain ⟨x, one, hx⟩ : ∃ x one, behindB rest [84, 79, 58] = (x, one) := ⟨_, _, rfl⟩
    have hxl : x.length ≤ rest.length := by have := behind_len rest [84, 79, 58]; rw [hx] at this; exact this
    have htl := trim_len x
    have HT : Hid (pathR rest [84, 79, 58] = if one then pathB (Lib.trimS x blanks) else none) := by unfold Hid pathR; rw [hx]
    have HX := Lib.hid hx
    clear hx
    obtain ⟨t, ht⟩ : ∃ t, Lib.trimS x blanks = t := ⟨_, rfl⟩
    rw [ht] at HT htl
    have HTT := Lib.hid ht
    clear ht
    obtain ⟨a, y, two, hpw, hal, hyl, htw, htf⟩ := path_parts t
    have HPW := Lib.hid hpw
    have HTW := Lib.hid htw
    have HTF := Lib.hid htf
    clear hpw htw htf
    go_enter Tryz.func78, Tryz.ntmps78
    go_wp2_with fail
    refine (behindR_calls rest [84, 79, 58] (by omega) _).mono ?_
    rw [HX.out]
    rintro e w1 ⟨rfl, hb1⟩
    have HB1 := Lib.hid hb1
    clear hb1
    go_wp2_with fail
    refine (trimR_calls x (by omega) _).mono ?_
    rw [HTT.out]
    rintro e w2 ⟨rfl, hb2⟩
    have HB2 := Lib.hid (below_then' HB1.out hb2)
    clear hb2 HB1
    go_wp2_with fail
    refine (pathR_calls t (by omega) _).mono ?_
    rw [HPW.out]
    rintro e w3 ⟨rfl, hb3⟩
    have HB3 := Lib.hid (below_then' HB2.out hb3)
    clear hb3 HB2
    cases one
    ·
      have HE : Hid (R = (replyL 501, s)) := by
        unfold Hid
        rw [HR.out, HT.out]; rfl
      go_wp2_with fail
      refine (replyR_501 _).mono ?_
      rintro e w9 ⟨rfl, hb9⟩
      go_wp2
      go_ret
      rw [HE.out]
      exact ⟨rfl, RStep.same H.out (below_then' HB3.out hb9) h8⟩
    · cases two
      ·
        have HE : Hid (R = (replyL 501, s)) := by
          unfold Hid
          rw [HR.out, HT.out, if_pos rfl, HTF.out rfl]; rfl
        go_wp2_with fail
        refine (replyR_501 _).mono ?_
        rintro e w9 ⟨rfl, hb9⟩
        go_wp2
        go_ret
        rw [HE.out]
        exact ⟨rfl, RStep.same H.out (below_then' HB3.out hb9) h8⟩
      · have HP : Hid (R = if y ≠ [] ∨ mayB a = false then (replyL 501, s) else rcptQ s a) := by unfold Hid; rw [HR.out, HT.out, if_pos rfl, HTW.out rfl]; rfl
        by_cases hy0 : y = []
        · subst hy0
          cases hm : mayB a
          · have HM := Lib.hid hm
            have H51 : Hid (R = (replyL 501, s)) := by unfold Hid; rw [HP.out, if_pos (.inr hm)]
            clear hm
            go_wp2_with fail
            refine (mayR_calls a (by omega) _).mono ?_
            rw [HM.out]
            rintro e w5 ⟨rfl, hb5⟩
            have HB5 := Lib.hid (below_then' HB3.out hb5)
            clear hb5
            have HE : Hid (R = (replyL 501, s)) := by
              unfold Hid
              exact H51.out
            go_wp2_with fail
            refine (replyR_501 _).mono ?_
            rintro e w9 ⟨rfl, hb9⟩
            go_wp2
            go_ret
            rw [HE.out]
            exact ⟨rfl, RStep.same H.out (below_then' HB5.out hb9) h8⟩
          · have HM := Lib.hid hm
            have HQ : Hid (R = rcptQ s a) := by unfold Hid; rw [HP.out, if_neg (by rintro (q | q); exact q rfl; rw [hm] at q; cases q)]
            clear hm
            go_wp2_with fail
            refine (mayR_calls a (by omega) _).mono ?_
            rw [HM.out]
            rintro e w5 ⟨rfl, hb5⟩
            have HB5 := Lib.hid (below_then' HB3.out hb5)
            clear hb5
            have hN := H.out.below HB5.out
            obtain ⟨ka, kc, hkv⟩ := hN.rcp.slice
            rw [strsV_len] at hkv
            have c6 : w5.cell? ⟨b, 6, none⟩ = some (.slice ka s.rcp.length kc) := by rw [← hkv]; exact hN.cell 6
            have f6 := hN.frozen 6
            have hcl : ∀ i x, s.rcp[i]? = some x → ∃ g off, ka = some ⟨g, off, none⟩ ∧ w5.cell? ⟨g, off + i, none⟩ = some (S x) := by
              intro i x hx
              obtain ⟨g, off, cap, e, hc⟩ := hN.rcp.cells (by intro e; have e9 := congrArg List.length e; rw [strsV_len, List.length_nil] at e9; have := (List.getElem?_eq_some_iff.1 hx).1; omega)
              rw [strsV_len] at e
              rw [hkv] at e
              cases e
              exact ⟨g, off, rfl, hc i _ (by simp [strsV, hx])⟩
            have HCL := Lib.hid hcl
            have HKV := Lib.hid hkv
            have HN := Lib.hid hN
            clear hcl hkv hN
            go_wp2_with fail
            go_loopg [10] s.rcp.length (fun g v5 wx => ∃ i : Nat, i + g = s.rcp.length ∧ v5 = .int .i64 i ∧ (s.rcp.take i).contains a = false ∧ wx = w5)
            case atStart => exact ⟨0, by omega, rfl, by simp, rfl⟩
            case round =>
              obtain ⟨i, hi, rfl, hno, rfl⟩ := hrel
              have HNO := Lib.hid hno
              clear hno
              cases gk with
              | zero =>
                have d1 : decide ((i : Int) < (s.rcp.length : Int)) = false := by simp; omega
                have ht : s.rcp.take i = s.rcp := List.take_of_length_le (by omega)
                have HC : Hid (s.rcp.contains a = false) := by unfold Hid; rw [← ht]; exact HNO.out
                clear ht
                by_cases h16 : 16 ≤ s.rcp.length
                · have d2 : decide ((16 : Int) ≤ (s.rcp.length : Int)) = true := by simp; omega
                  have H16 : Hid (R = (replyL 452, s)) := by unfold Hid; rw [HQ.out]; unfold rcptQ; rw [HC.out, if_neg (by simp), if_pos h16]
                  clear h16
                  have HE : Hid (R = (replyL 452, s)) := by
                    unfold Hid
                    exact H16.out
                  go_wp2_with fail
                  refine (replyR_452 _).mono ?_
                  rintro e w9 ⟨rfl, hb9⟩
                  go_wp2
                  go_ret
                  rw [HE.out]
                  exact ⟨rfl, RStep.same H.out (below_then' HB5.out hb9) h8⟩
                · have d2 : decide ((16 : Int) ≤ (s.rcp.length : Int)) = false := by simp; omega
                  have HE : Hid (R = (replyL 250, { s with rcp := s.rcp ++ [a] })) := by unfold Hid; rw [HQ.out]; unfold rcptQ; rw [HC.out, if_neg (by simp), if_neg h16]
                  have zr : 8 ≤ wr.heap.size := by have := HB5.out.size; omega
                  have hbb : b < wr.heap.size := (HN.out.blk b HN.out.fb).2
                  obtain ⟨a7, c7, w7, a9, c9, w9, happ1, happ2, hr9, hv9, hb9⟩ := clone_put wr zr _ s.rcp HN.out.rcp (by omega) a
                  rw [HKV.out] at happ1
                  have c66 : (wr.alloc (Obj.cells #[] 9)).cell? ⟨b, 6, none⟩ = some (.slice ka s.rcp.length kc) := (World.cell?_of_block (Below.heap_alloc wr _ b hbb)).trans c6
                  have hN9 := HN.out.below hb9
                  have c69 : w9.cell? ⟨b, 6, none⟩ = some p.tv := hN9.cell 6
                  have f69 := hN9.frozen 6
                  have hfin := rcp_after HN.out zr hb9 _ (s.rcp ++ [a]) hr9 hv9
                  have HFIN := Lib.hid hfin
                  have HA1 := Lib.hid happ1
                  have HA2 := Lib.hid happ2
                  clear h16 HC hr9 hv9 hb9 hN9 hfin happ1 happ2
                  go_wp2_with (first | (at_builtin; refine wpList_yield rfl (exec_append _ (.tmp 72) (.tmp 76) 22 22 rfl _ _ rfl rfl _ _ HA1.out) ?_) | (at_builtin; refine wpList_yield rfl (exec_append _ (.tmp 77) (.tmp 79) 22 22 rfl _ _ rfl rfl _ _ HA2.out) ?_))
                  obtain ⟨w8, hw8⟩ : ∃ w8, w9.setCell ⟨b, 6, none⟩ (.slice a9 (s.rcp.length + 1) c9) = w8 := ⟨_, rfl⟩
                  rw [hw8] at HFIN
                  first | rw [hw8] | skip
                  refine (replyR_250 _).mono ?_
                  rintro e w10 ⟨rfl, hb10⟩
                  go_wp2
                  go_ret
                  rw [HE.out]
                  exact ⟨rfl, RStep.from' H.out (Kept.of_below HB5.out) h8 (RStep.then HN.out zr ⟨HFIN.out.1, _, HFIN.out.2, rfl⟩ hb10)⟩
              | succ g =>
                have h1 : i < s.rcp.length := by omega
                have d1 : decide ((i : Int) < (s.rcp.length : Int)) = true := by simp; omega
                have hi0 : (0 : Int) ≤ (i : Int) := by omega
                have hil : (i : Int) < (s.rcp.length : Int) := by omega
                obtain ⟨x9, hx9⟩ : ∃ x, s.rcp[i]? = some x := ⟨s.rcp[i], List.getElem?_eq_getElem h1⟩
                obtain ⟨gb, off, hka, c1⟩ := HCL.out i x9 hx9
                have htk : Hid (s.rcp.take (i + 1) = s.rcp.take i ++ [x9]) := by unfold Hid; rw [List.take_add_one, hx9]; rfl
                have HX9 := Lib.hid hx9
                have hjw : IntKind.i64.wrap ((i : Int) + 1) = ((i + 1 : Nat) : Int) := by rw [IntWalk.i64_in _ ⟨by omega, by omega⟩]; omega
                subst hka
                clear hx9
                by_cases hxs : x9 = a
                · subst hxs
                  have HC : s.rcp.contains x9 = true := by rw [List.contains_iff_mem]; exact List.mem_of_getElem? HX9.out
                  have H25 : Hid (R = (replyL 250, s)) := by unfold Hid; rw [HQ.out]; unfold rcptQ; rw [if_pos HC]
                  clear HC
                  have HE : Hid (R = (replyL 250, s)) := by
                    unfold Hid
                    exact H25.out
                  go_wp2_with fail
                  refine (replyR_250 _).mono ?_
                  rintro e w9 ⟨rfl, hb9⟩
                  go_wp2
                  go_ret
                  rw [HE.out]
                  exact ⟨rfl, RStep.same H.out (below_then' HB5.out hb9) h8⟩
                · have dx : (x9 == a) = false := by simpa using hxs
                  have HNX := Lib.hid hxs
                  clear hxs
                  go_wp2
                  go_roundg g
                  case measure => omega
                  case rel =>
                    refine ⟨i + 1, by omega, by simp, ?_, rfl⟩
                    rw [htk.out]
                    have e0 := HNO.out
                    simp only [List.contains_eq_mem, List.mem_append, List.mem_cons, List.not_mem_nil, or_false, decide_eq_false_iff_not, not_or] at e0 ⊢
                    exact ⟨e0, fun e => HNX.out e.symm⟩
        · have hem : List.isEmpty y = false := by simpa using hy0
          have H51 : Hid (R = (replyL 501, s)) := by unfold Hid; rw [HP.out, if_pos (.inl hy0)]
          clear hy0
          have HE : Hid (R = (replyL 501, s)) := by
            unfold Hid
            exact H51.out
          go_wp2_with fail
          refine (replyR_501 _).mono ?_
          rintro e w9 ⟨rfl, hb9⟩
          go_wp2
          go_ret
          rw [HE.out]
          exact ⟨rfl, RStep.same H.out (below_then' HB3.out hb9) h8⟩
end Go.Proofs.YtapanjfheddfnaaGreatDoor
end
section
/- The reference's command line. -/
namespace Go.Proofs.YtapanjfheddfnaaGreatDoor
open Go.RowKit Go.Shelf
attribute [local go_sem high] ext_to ext_from
attribute [local go_sem] ext_list app_list size_list

theorem doS_else (s : Sess) (v rest : Bs) (hEHLO : v ≠ [69, 72, 76, 79]) (hHELO : v ≠ [72, 69, 76, 79]) (hMAIL : v ≠ [77, 65, 73, 76]) (hRCPT : v ≠ [82, 67, 80, 84]) (hVRFY : v ≠ [86, 82, 70, 89]) (hNOOP : v ≠ [78, 79, 79, 80]) (hDATA : v ≠ [68, 65, 84, 65]) (hRSET : v ≠ [82, 83, 69, 84]) (hQUIT : v ≠ [81, 85, 73, 84]) : doS s v rest = (replyL 500, s) := by
  unfold doS
  rw [if_neg hEHLO, if_neg hHELO, if_neg hMAIL, if_neg hRCPT, if_neg hDATA, if_neg hRSET, if_neg hQUIT, if_neg hNOOP, if_neg hVRFY]
theorem greet_after {w : World} {b : Nat} {s : Sess} {p : RP} {F : Nat → Prop} (h : RefAt w b s p F) : RefAt (w.setCell ⟨b, 3, none⟩ (.bool true)) b { s with greeted := true } p F :=
  h.put 3 _ rfl rfl rfl rfl h.kept h.rcp h.body h.fk h.ft
theorem blankR_calls (c : UInt8) (w : World) : Calls Tryz.prog 75 #[.int .u8 c.toNat] w fun e w' => e = .returned (.bool (blanks.contains c)) ∧ Below w.heap.size w w' :=
  (PSmtpTells.pouchref22_blank.calls _ _ w (blank_f c)).mono fun e w' ⟨h1, h2⟩ => ⟨h1, h2.below⟩

set_option maxHeartbeats 20000000 in
set_option maxRecDepth 100000 in
/-- From the switch on. -/
theorem commandR_calls (w : World) (h8 : 8 ≤ w.heap.size) (b : Nat) (s : Sess) (p : RP) (F : Nat → Prop) (h : RefAt w b s p F) (hw : s.waits = false) (hm : s.most ≤ 9223372036854775807) (hto : s.rcp.length ≤ 1000) (l : Bs) (hll : l.length ≤ 1000000) :
    Calls Tryz.prog 42 #[.pointer (some ⟨b, 0, none⟩), S l] w fun e w' => e = .returned (S (commandR s l).1) ∧ RStep b F p.left w w' (commandR s l).2 := by
  obtain ⟨R, hR⟩ : ∃ R, commandR s l = R := ⟨_, rfl⟩
  rw [hR]
  have H := Lib.hid h
  have HW := Lib.hid hw
  clear h hw
  cases hten : Lib.hasSuffix l [10]
  · have HR : Hid (R = (replyL 500, s)) := by unfold Hid; rw [← hR]; unfold commandR; rw [hten]; rfl
    clear hR
    by_cases hne : l = []
    · subst hne
      clear hten
      go_enter Tryz.func42, Tryz.ntmps42
      go_wp2_with fail
      refine (replyR_500 _).mono ?_
      rintro e w9 ⟨rfl, hb9⟩
      go_wp2
      go_ret
      have HE : R = (replyL 500, s) := by exact HR.out
      rw [HE]
      exact ⟨rfl, RStep.same H.out (below_then' (Below.refl _ _) hb9) h8⟩
    · obtain ⟨n, hn⟩ : ∃ n, l.length = n + 1 := ⟨l.length - 1, by have := List.length_pos_iff.2 hne; omega⟩
      have he : List.isEmpty l = false := by cases l with | nil => exact absurd rfl hne | cons _ _ => rfl
      have hlt : (n : Int) < (n : Int) + 1 := by omega
      have hnb : n + 1 ≤ 1000000 := by omega
      have hsz : n < (⟨l.toArray⟩ : ByteArray).size := by show n < l.length; omega
      have dc : ((((⟨l.toArray⟩ : ByteArray)[n]'hsz).toNat : Int) != 10) = true := by rw [bne, ← last_ten l n hn hsz, hten]; rfl
      clear hten hne
      go_enter Tryz.func42, Tryz.ntmps42
      go_wp2_with fail
      refine (replyR_500 _).mono ?_
      rintro e w9 ⟨rfl, hb9⟩
      go_wp2
      go_ret
      have HE : R = (replyL 500, s) := by exact HR.out
      rw [HE]
      exact ⟨rfl, RStep.same H.out (below_then' (Below.refl _ _) hb9) h8⟩
  · have HR0 : Hid (R = doS s (upL ((Lib.trimS (bareL l) blanks).takeWhile nb)) (Lib.trimS ((Lib.trimS (bareL l) blanks).dropWhile nb) blanks)) := by unfold Hid; rw [← hR]; unfold commandR; rw [if_pos hten]
    clear hR
    have hne : l ≠ [] := by rintro rfl; cases hten
    obtain ⟨n, hn⟩ : ∃ n, l.length = n + 1 := ⟨l.length - 1, by have := List.length_pos_iff.2 hne; omega⟩
    have he : List.isEmpty l = false := by cases l with | nil => exact absurd rfl hne | cons _ _ => rfl
    have hlt : (n : Int) < (n : Int) + 1 := by omega
    have hnb : n + 1 ≤ 1000000 := by omega
    have hsz : n < (⟨l.toArray⟩ : ByteArray).size := by show n < l.length; omega
    have dc : ((((⟨l.toArray⟩ : ByteArray)[n]'hsz).toNat : Int) != 10) = false := by rw [bne, ← last_ten l n hn hsz, hten]; rfl
    have hbl := bareL_le l
    clear hten hne
    obtain ⟨u, hu⟩ : ∃ u, bareL l = u := ⟨_, rfl⟩
    rw [hu] at HR0 hbl
    have HU := Lib.hid hu
    have hcl := trim_len u
    have hrt := rt_trim u
    obtain ⟨c, hc⟩ : ∃ c, Lib.trimS u blanks = c := ⟨_, rfl⟩
    rw [hc] at HR0 hcl hrt
    have HC := Lib.hid hc
    have HRTC := Lib.hid hrt
    clear hu hc hrt
    have hsum := take_drop_len nb c
    obtain ⟨K, hK⟩ : ∃ K, (c.takeWhile nb).length = K := ⟨_, rfl⟩
    have hcut := nb_cut c
    have hat := nb_at c
    have hend := nb_end c
    rw [hK] at hsum hcut hat hend
    have hKc : K ≤ c.length := by omega
    obtain ⟨v, hv⟩ : ∃ v, upL (c.takeWhile nb) = v := ⟨_, rfl⟩
    obtain ⟨r, hr⟩ : ∃ r, Lib.trimS (c.dropWhile nb) blanks = r := ⟨_, rfl⟩
    have HR : Hid (R = doS s v r) := by unfold Hid; rw [HR0.out, hv, hr]
    have HV0 : Hid (upL (c.take K) = v) := by unfold Hid; rw [hcut.1]; exact hv
    have HRR : Hid (Lib.trimS (c.drop K) blanks = r) := by unfold Hid; rw [hcut.2]; exact hr
    have HRT : Hid (RT r) := by unfold Hid; rw [← hr]; exact rt_trim _
    have hrl : r.length ≤ 1000000 := by rw [← hr]; have := trim_len (c.dropWhile nb); have := take_drop_len nb c; omega
    have HIN : Hid (∀ (i : Nat) (h : i < (⟨c.toArray⟩ : ByteArray).size), i < K → blanks.contains ((⟨c.toArray⟩ : ByteArray)[i]'h) = false) := by
      intro i h hi
      obtain ⟨x, e1, e2⟩ := hat i hi
      have e3 : c[i]? = some (c[i]'h) := List.getElem?_eq_getElem h
      rw [e3] at e1
      show blanks.contains (c[i]'h) = false
      rw [Option.some.inj e1]; exact e2
    have HEND : Hid (∀ (h : K < (⟨c.toArray⟩ : ByteArray).size), blanks.contains ((⟨c.toArray⟩ : ByteArray)[K]'h) = true) := by
      intro h
      obtain ⟨x, e1, e2⟩ := hend h
      have e3 : c[K]? = some (c[K]'h) := List.getElem?_eq_getElem h
      rw [e3] at e1
      show blanks.contains (c[K]'h) = true
      rw [Option.some.inj e1]; exact e2
    have hct : (c.take K).length ≤ 1000000 := by rw [List.length_take]; omega
    have hcd : (c.drop K).length ≤ 1000000 := by rw [List.length_drop]; omega
    clear hcut hat hend hK hsum hv hr HR0
    go_enter Tryz.func42, Tryz.ntmps42
    go_wp2_with fail
    refine (bareR_calls l (by omega) _).mono ?_
    rw [HU.out]
    rintro e w1 ⟨rfl, hb1⟩
    have HB1 := Lib.hid hb1
    clear hb1
    go_wp2_with fail
    refine (trimR_calls u (by omega) _).mono ?_
    rw [HC.out]
    rintro e w2 ⟨rfl, hb2⟩
    have HB2 := Lib.hid (below_then' HB1.out hb2)
    clear hb2 HB1
    go_wp2_with fail
    go_loopg [6] K (fun g v6 wx => ∃ i : Nat, i + g = K ∧ v6 = .int .i64 i ∧ Below w.heap.size w wx)
    case atStart => exact ⟨0, by omega, rfl, HB2.out⟩
    case round =>
      obtain ⟨i, hig, rfl, hbx⟩ := hrel
      have HBX := Lib.hid hbx
      clear hbx HB2
      cases gk with
      | zero =>
        have hiK : i = K := by omega
        subst hiK
        by_cases hil : i < c.length
        · have d1 : decide ((i : Int) < (c.length : Int)) = true := by simp; omega
          have hi0 : (0 : Int) ≤ (i : Int) := by omega
          have hi1 : (i : Int) < (c.length : Int) := by omega
          have hi2 : (i : Int) ≤ (c.length : Int) := by omega
          have hcz : i < (⟨c.toArray⟩ : ByteArray).size := hil
          have HXB : Hid (blanks.contains ((⟨c.toArray⟩ : ByteArray)[i]'hcz) = true) := HEND.out hcz
          go_wp2_with (go_at_call 75; refine (blankR_calls _ _).mono ?_; rw [HXB.out]; rintro e wy ⟨rfl, hby⟩)
          have HBY := Lib.hid (below_then' HBX.out hby)
          clear hby
          refine (greatR_calls (c.take i) (by omega) _).mono ?_
          rw [HV0.out]
          rintro e wt ⟨rfl, hbt⟩
          have HBT := Lib.hid (below_then' HBY.out hbt)
          clear hbt
          go_wp2_with fail
          refine (trimR_calls (c.drop i) (by omega) _).mono ?_
          rw [HRR.out]
          rintro e wz ⟨rfl, hbz⟩
          have HB := Lib.hid (below_then' HBT.out hbz)
          clear hbz HBT HBY
          by_cases qEHLO : v = [69, 72, 76, 79]
          · subst qEHLO
            have HV : Hid (R = helloS s r (ehloT s.most)) := by unfold Hid; rw [HR.out]; rfl
            by_cases hr0 : r = []
            · subst hr0
              go_wp2_with fail
              refine (replyR_501 _).mono ?_
              rintro e w9 ⟨rfl, hb9⟩
              go_wp2
              go_ret
              have HE : R = (replyL 501, s) := by rw [HV.out]; rfl
              rw [HE]
              exact ⟨rfl, RStep.same H.out (below_then' HB.out hb9) h8⟩
            · have hem : List.isEmpty r = false := by simpa using hr0
              have HV2 : Hid (R = ((ehloT s.most) ++ replyL 250, resetS { s with greeted := true })) := by unfold Hid; rw [HV.out]; unfold helloS; rw [if_neg hr0]
              have hN := H.out.below HB.out
              have c3 : wz.cell? ⟨b, 3, none⟩ = some (.bool s.greeted) := hN.cell 3
              have f3 := hN.frozen 3
              have hG := greet_after hN
              have HG := Lib.hid hG
              have HD := Lib.hid (anew_done hG)
              have HK := Lib.hid (((Kept.of_below HB.out).trans' (hN.own1 3 (.bool true)) fun k q => .inl q).trans' (anew_kept hG) fun k q => .inl q)
              clear hN hG hr0
              go_wp2_with fail
              refine (anew_calls _ b _ p F HG.out).mono ?_
              rintro e w7 ⟨rfl, rfl⟩
              obtain ⟨w8, hw8⟩ : ∃ w8, (((wz.setCell ⟨b, 3, none⟩ (.bool true)).setCell ⟨b, 4, none⟩ (.bool false)).setCell ⟨b, 5, none⟩ (S [])).setCell ⟨b, 6, none⟩ (.slice none 0 0) = w8 := ⟨_, rfl⟩
              rw [hw8] at HD HK ⊢
              clear hw8
              have c0 : w8.cell? ⟨b, 0, none⟩ = some (.int .i64 s.most) := HD.out.cell 0
              obtain ⟨it, hit⟩ : ∃ it, Lib.itoa s.most = it := ⟨_, rfl⟩
              have hitl : it.length ≤ 21 := by rw [← hit]; exact Lib.itoa_length_le _ (by omega) (by omega)
              have HIT := Lib.hid hit
              have h250 : Hid (replyL 250 = [50, 53, 48, 32, 79, 75, 13, 10]) := by unfold Hid; decide +kernel
              clear hit
              go_wp2_with fail
              refine (textR_calls s.most (by omega) (by omega) _).mono ?_
              rw [HIT.out]
              rintro e w9 ⟨rfl, hb9⟩
              have HB9 := Lib.hid hb9
              clear hb9
              go_wp2_with fail
              refine (replyR_250 _).mono ?_
              rw [h250.out]
              rintro e w10 ⟨rfl, hb10⟩
              go_wp2
              go_ret
              rw [HV2.out]
              refine ⟨?_, RStep.of H.out HK.out HD.out (below_then' HB9.out hb10) h8 rfl⟩
              unfold ehloT
              rw [HIT.out, h250.out]
              exact ret_str (by simp)
          · have eEHLO : (v == [69, 72, 76, 79]) = false := beq_eq_false_iff_ne.2 qEHLO
            have NEHLO := Lib.hid qEHLO
            clear qEHLO
            by_cases qHELO : v = [72, 69, 76, 79]
            · subst qHELO
              have HV : Hid (R = helloS s r []) := by unfold Hid; rw [HR.out]; rfl
              by_cases hr0 : r = []
              · subst hr0
                go_wp2_with fail
                refine (replyR_501 _).mono ?_
                rintro e w9 ⟨rfl, hb9⟩
                go_wp2
                go_ret
                have HE : R = (replyL 501, s) := by rw [HV.out]; rfl
                rw [HE]
                exact ⟨rfl, RStep.same H.out (below_then' HB.out hb9) h8⟩
              · have hem : List.isEmpty r = false := by simpa using hr0
                have HV2 : Hid (R = ([] ++ replyL 250, resetS { s with greeted := true })) := by unfold Hid; rw [HV.out]; unfold helloS; rw [if_neg hr0]
                have hN := H.out.below HB.out
                have c3 : wz.cell? ⟨b, 3, none⟩ = some (.bool s.greeted) := hN.cell 3
                have f3 := hN.frozen 3
                have hG := greet_after hN
                have HG := Lib.hid hG
                have HD := Lib.hid (anew_done hG)
                have HK := Lib.hid (((Kept.of_below HB.out).trans' (hN.own1 3 (.bool true)) fun k q => .inl q).trans' (anew_kept hG) fun k q => .inl q)
                clear hN hG hr0
                go_wp2_with fail
                refine (anew_calls _ b _ p F HG.out).mono ?_
                rintro e w7 ⟨rfl, rfl⟩
                obtain ⟨w8, hw8⟩ : ∃ w8, (((wz.setCell ⟨b, 3, none⟩ (.bool true)).setCell ⟨b, 4, none⟩ (.bool false)).setCell ⟨b, 5, none⟩ (S [])).setCell ⟨b, 6, none⟩ (.slice none 0 0) = w8 := ⟨_, rfl⟩
                rw [hw8] at HD HK ⊢
                clear hw8
                go_wp2_with fail
                refine (replyR_250 _).mono ?_
                rintro e w9 ⟨rfl, hb9⟩
                go_wp2
                go_ret
                rw [HV2.out]
                exact ⟨rfl, RStep.of H.out HK.out HD.out hb9 h8 rfl⟩
            · have eHELO : (v == [72, 69, 76, 79]) = false := beq_eq_false_iff_ne.2 qHELO
              have NHELO := Lib.hid qHELO
              clear qHELO
              by_cases qMAIL : v = [77, 65, 73, 76]
              · subst qMAIL
                have hN := H.out.below HB.out
                have z8 := HB.out.size
                go_wp2_with fail
                refine (mailR_calls wz (by omega) b s p F hN r (by omega)).mono ?_
                rintro e w9 ⟨rfl, k9⟩
                go_wp2
                go_ret
                have HE : R = mailR s r := by rw [HR.out, mail_eq s r HRT.out]; rfl
                rw [HE]
                exact ⟨rfl, RStep.from' H.out (Kept.of_below HB.out) h8 k9⟩
              · have eMAIL : (v == [77, 65, 73, 76]) = false := beq_eq_false_iff_ne.2 qMAIL
                have NMAIL := Lib.hid qMAIL
                clear qMAIL
                by_cases qRCPT : v = [82, 67, 80, 84]
                · subst qRCPT
                  have hN := H.out.below HB.out
                  have z8 := HB.out.size
                  go_wp2_with fail
                  refine (rcptR_calls wz (by omega) b s p F hN r (by omega) hto).mono ?_
                  rintro e w9 ⟨rfl, k9⟩
                  go_wp2
                  go_ret
                  have HE : R = rcptR s r := by rw [HR.out, rcpt_eq s r HRT.out]; rfl
                  rw [HE]
                  exact ⟨rfl, RStep.from' H.out (Kept.of_below HB.out) h8 k9⟩
                · have eRCPT : (v == [82, 67, 80, 84]) = false := beq_eq_false_iff_ne.2 qRCPT
                  have NRCPT := Lib.hid qRCPT
                  clear qRCPT
                  by_cases qVRFY : v = [86, 82, 70, 89]
                  · subst qVRFY
                    go_wp2_with fail
                    refine (replyR_252 _).mono ?_
                    rintro e w9 ⟨rfl, hb9⟩
                    go_wp2
                    go_ret
                    have HE : R = (replyL 252, s) := by rw [HR.out]; rfl
                    rw [HE]
                    exact ⟨rfl, RStep.same H.out (below_then' HB.out hb9) h8⟩
                  · have eVRFY : (v == [86, 82, 70, 89]) = false := beq_eq_false_iff_ne.2 qVRFY
                    have NVRFY := Lib.hid qVRFY
                    clear qVRFY
                    by_cases qNOOP : v = [78, 79, 79, 80]
                    · subst qNOOP
                      go_wp2_with fail
                      refine (replyR_250 _).mono ?_
                      rintro e w9 ⟨rfl, hb9⟩
                      go_wp2
                      go_ret
                      have HE : R = (replyL 250, s) := by rw [HR.out]; rfl
                      rw [HE]
                      exact ⟨rfl, RStep.same H.out (below_then' HB.out hb9) h8⟩
                    · have eNOOP : (v == [78, 79, 79, 80]) = false := beq_eq_false_iff_ne.2 qNOOP
                      have NNOOP := Lib.hid qNOOP
                      clear qNOOP
                      by_cases qDATA : v = [68, 65, 84, 65]
                      · subst qDATA
                        have HV : Hid (R = bareS dataS s r) := by unfold Hid; rw [HR.out]; rfl
                        by_cases hr0 : r = []
                        · subst hr0
                          have HV2 : Hid (R = dataS s) := by unfold Hid; rw [HV.out]; rfl
                          have hN := H.out.below HB.out
                          have z8 := HB.out.size
                          go_wp2_with fail
                          refine (bareData_calls wz (by omega) b s p F hN HW.out).mono ?_
                          rintro e w9 ⟨rfl, k9⟩
                          go_wp2
                          go_ret
                          rw [HV2.out]
                          exact ⟨rfl, RStep.from' H.out (Kept.of_below HB.out) h8 k9⟩
                        · have hem : List.isEmpty r = false := by simpa using hr0
                          have HR0 := Lib.hid hr0
                          clear hr0
                          go_wp2_with fail
                          refine (replyR_501 _).mono ?_
                          rintro e w9 ⟨rfl, hb9⟩
                          go_wp2
                          go_ret
                          have HE : R = (replyL 501, s) := by rw [HV.out]; unfold bareS; rw [if_neg HR0.out]
                          rw [HE]
                          exact ⟨rfl, RStep.same H.out (below_then' HB.out hb9) h8⟩
                      · have eDATA : (v == [68, 65, 84, 65]) = false := beq_eq_false_iff_ne.2 qDATA
                        have NDATA := Lib.hid qDATA
                        clear qDATA
                        by_cases qRSET : v = [82, 83, 69, 84]
                        · subst qRSET
                          have HV : Hid (R = bareS rsetS s r) := by unfold Hid; rw [HR.out]; rfl
                          by_cases hr0 : r = []
                          · subst hr0
                            have HV2 : Hid (R = rsetS s) := by unfold Hid; rw [HV.out]; rfl
                            have hN := H.out.below HB.out
                            have z8 := HB.out.size
                            go_wp2_with fail
                            refine (bareRset_calls wz (by omega) b s p F hN ).mono ?_
                            rintro e w9 ⟨rfl, k9⟩
                            go_wp2
                            go_ret
                            rw [HV2.out]
                            exact ⟨rfl, RStep.from' H.out (Kept.of_below HB.out) h8 k9⟩
                          · have hem : List.isEmpty r = false := by simpa using hr0
                            have HR0 := Lib.hid hr0
                            clear hr0
                            go_wp2_with fail
                            refine (replyR_501 _).mono ?_
                            rintro e w9 ⟨rfl, hb9⟩
                            go_wp2
                            go_ret
                            have HE : R = (replyL 501, s) := by rw [HV.out]; unfold bareS; rw [if_neg HR0.out]
                            rw [HE]
                            exact ⟨rfl, RStep.same H.out (below_then' HB.out hb9) h8⟩
                        · have eRSET : (v == [82, 83, 69, 84]) = false := beq_eq_false_iff_ne.2 qRSET
                          have NRSET := Lib.hid qRSET
                          clear qRSET
                          by_cases qQUIT : v = [81, 85, 73, 84]
                          · subst qQUIT
                            have HV : Hid (R = bareS quitS s r) := by unfold Hid; rw [HR.out]; rfl
                            by_cases hr0 : r = []
                            · subst hr0
                              have HV2 : Hid (R = quitS s) := by unfold Hid; rw [HV.out]; rfl
                              have hN := H.out.below HB.out
                              have z8 := HB.out.size
                              go_wp2_with fail
                              refine (bareQuit_calls wz (by omega) b s p F hN ).mono ?_
                              rintro e w9 ⟨rfl, k9⟩
                              go_wp2
                              go_ret
                              rw [HV2.out]
                              exact ⟨rfl, RStep.from' H.out (Kept.of_below HB.out) h8 k9⟩
                            · have hem : List.isEmpty r = false := by simpa using hr0
                              have HR0 := Lib.hid hr0
                              clear hr0
                              go_wp2_with fail
                              refine (replyR_501 _).mono ?_
                              rintro e w9 ⟨rfl, hb9⟩
                              go_wp2
                              go_ret
                              have HE : R = (replyL 501, s) := by rw [HV.out]; unfold bareS; rw [if_neg HR0.out]
                              rw [HE]
                              exact ⟨rfl, RStep.same H.out (below_then' HB.out hb9) h8⟩
                          · have eQUIT : (v == [81, 85, 73, 84]) = false := beq_eq_false_iff_ne.2 qQUIT
                            have NQUIT := Lib.hid qQUIT
                            clear qQUIT
                            go_wp2_with fail
                            refine (replyR_500 _).mono ?_
                            rintro e w9 ⟨rfl, hb9⟩
                            go_wp2
                            go_ret
                            have HE : R = (replyL 500, s) := by rw [HR.out]; exact doS_else s v r NEHLO.out NHELO.out NMAIL.out NRCPT.out NVRFY.out NNOOP.out NDATA.out NRSET.out NQUIT.out
                            rw [HE]
                            exact ⟨rfl, RStep.same H.out (below_then' HB.out hb9) h8⟩
        · have d1 : decide ((i : Int) < (c.length : Int)) = false := by simp; omega
          have hi0 : (0 : Int) ≤ (i : Int) := by omega
          have hi2 : (i : Int) ≤ (c.length : Int) := by omega
          go_wp2_with fail
          have HBY := HBX
          refine (greatR_calls (c.take i) (by omega) _).mono ?_
          rw [HV0.out]
          rintro e wt ⟨rfl, hbt⟩
          have HBT := Lib.hid (below_then' HBY.out hbt)
          clear hbt
          go_wp2_with fail
          refine (trimR_calls (c.drop i) (by omega) _).mono ?_
          rw [HRR.out]
          rintro e wz ⟨rfl, hbz⟩
          have HB := Lib.hid (below_then' HBT.out hbz)
          clear hbz HBT HBY
          by_cases qEHLO : v = [69, 72, 76, 79]
          · subst qEHLO
            have HV : Hid (R = helloS s r (ehloT s.most)) := by unfold Hid; rw [HR.out]; rfl
            by_cases hr0 : r = []
            · subst hr0
              go_wp2_with fail
              refine (replyR_501 _).mono ?_
              rintro e w9 ⟨rfl, hb9⟩
              go_wp2
              go_ret
              have HE : R = (replyL 501, s) := by rw [HV.out]; rfl
              rw [HE]
              exact ⟨rfl, RStep.same H.out (below_then' HB.out hb9) h8⟩
            · have hem : List.isEmpty r = false := by simpa using hr0
              have HV2 : Hid (R = ((ehloT s.most) ++ replyL 250, resetS { s with greeted := true })) := by unfold Hid; rw [HV.out]; unfold helloS; rw [if_neg hr0]
              have hN := H.out.below HB.out
              have c3 : wz.cell? ⟨b, 3, none⟩ = some (.bool s.greeted) := hN.cell 3
              have f3 := hN.frozen 3
              have hG := greet_after hN
              have HG := Lib.hid hG
              have HD := Lib.hid (anew_done hG)
              have HK := Lib.hid (((Kept.of_below HB.out).trans' (hN.own1 3 (.bool true)) fun k q => .inl q).trans' (anew_kept hG) fun k q => .inl q)
              clear hN hG hr0
              go_wp2_with fail
              refine (anew_calls _ b _ p F HG.out).mono ?_
              rintro e w7 ⟨rfl, rfl⟩
              obtain ⟨w8, hw8⟩ : ∃ w8, (((wz.setCell ⟨b, 3, none⟩ (.bool true)).setCell ⟨b, 4, none⟩ (.bool false)).setCell ⟨b, 5, none⟩ (S [])).setCell ⟨b, 6, none⟩ (.slice none 0 0) = w8 := ⟨_, rfl⟩
              rw [hw8] at HD HK ⊢
              clear hw8
              have c0 : w8.cell? ⟨b, 0, none⟩ = some (.int .i64 s.most) := HD.out.cell 0
              obtain ⟨it, hit⟩ : ∃ it, Lib.itoa s.most = it := ⟨_, rfl⟩
              have hitl : it.length ≤ 21 := by rw [← hit]; exact Lib.itoa_length_le _ (by omega) (by omega)
              have HIT := Lib.hid hit
              have h250 : Hid (replyL 250 = [50, 53, 48, 32, 79, 75, 13, 10]) := by unfold Hid; decide +kernel
              clear hit
              go_wp2_with fail
              refine (textR_calls s.most (by omega) (by omega) _).mono ?_
              rw [HIT.out]
              rintro e w9 ⟨rfl, hb9⟩
              have HB9 := Lib.hid hb9
              clear hb9
              go_wp2_with fail
              refine (replyR_250 _).mono ?_
              rw [h250.out]
              rintro e w10 ⟨rfl, hb10⟩
              go_wp2
              go_ret
              rw [HV2.out]
              refine ⟨?_, RStep.of H.out HK.out HD.out (below_then' HB9.out hb10) h8 rfl⟩
              unfold ehloT
              rw [HIT.out, h250.out]
              exact ret_str (by simp)
          · have eEHLO : (v == [69, 72, 76, 79]) = false := beq_eq_false_iff_ne.2 qEHLO
            have NEHLO := Lib.hid qEHLO
            clear qEHLO
            by_cases qHELO : v = [72, 69, 76, 79]
            · subst qHELO
              have HV : Hid (R = helloS s r []) := by unfold Hid; rw [HR.out]; rfl
              by_cases hr0 : r = []
              · subst hr0
                go_wp2_with fail
                refine (replyR_501 _).mono ?_
                rintro e w9 ⟨rfl, hb9⟩
                go_wp2
                go_ret
                have HE : R = (replyL 501, s) := by rw [HV.out]; rfl
                rw [HE]
                exact ⟨rfl, RStep.same H.out (below_then' HB.out hb9) h8⟩
              · have hem : List.isEmpty r = false := by simpa using hr0
                have HV2 : Hid (R = ([] ++ replyL 250, resetS { s with greeted := true })) := by unfold Hid; rw [HV.out]; unfold helloS; rw [if_neg hr0]
                have hN := H.out.below HB.out
                have c3 : wz.cell? ⟨b, 3, none⟩ = some (.bool s.greeted) := hN.cell 3
                have f3 := hN.frozen 3
                have hG := greet_after hN
                have HG := Lib.hid hG
                have HD := Lib.hid (anew_done hG)
                have HK := Lib.hid (((Kept.of_below HB.out).trans' (hN.own1 3 (.bool true)) fun k q => .inl q).trans' (anew_kept hG) fun k q => .inl q)
                clear hN hG hr0
                go_wp2_with fail
                refine (anew_calls _ b _ p F HG.out).mono ?_
                rintro e w7 ⟨rfl, rfl⟩
                obtain ⟨w8, hw8⟩ : ∃ w8, (((wz.setCell ⟨b, 3, none⟩ (.bool true)).setCell ⟨b, 4, none⟩ (.bool false)).setCell ⟨b, 5, none⟩ (S [])).setCell ⟨b, 6, none⟩ (.slice none 0 0) = w8 := ⟨_, rfl⟩
                rw [hw8] at HD HK ⊢
                clear hw8
                go_wp2_with fail
                refine (replyR_250 _).mono ?_
                rintro e w9 ⟨rfl, hb9⟩
                go_wp2
                go_ret
                rw [HV2.out]
                exact ⟨rfl, RStep.of H.out HK.out HD.out hb9 h8 rfl⟩
            · have eHELO : (v == [72, 69, 76, 79]) = false := beq_eq_false_iff_ne.2 qHELO
              have NHELO := Lib.hid qHELO
              clear qHELO
              by_cases qMAIL : v = [77, 65, 73, 76]
              · subst qMAIL
                have hN := H.out.below HB.out
                have z8 := HB.out.size
                go_wp2_with fail
                refine (mailR_calls wz (by omega) b s p F hN r (by omega)).mono ?_
                rintro e w9 ⟨rfl, k9⟩
                go_wp2
                go_ret
                have HE : R = mailR s r := by rw [HR.out, mail_eq s r HRT.out]; rfl
                rw [HE]
                exact ⟨rfl, RStep.from' H.out (Kept.of_below HB.out) h8 k9⟩
              · have eMAIL : (v == [77, 65, 73, 76]) = false := beq_eq_false_iff_ne.2 qMAIL
                have NMAIL := Lib.hid qMAIL
                clear qMAIL
                by_cases qRCPT : v = [82, 67, 80, 84]
                · subst qRCPT
                  have hN := H.out.below HB.out
                  have z8 := HB.out.size
                  go_wp2_with fail
                  refine (rcptR_calls wz (by omega) b s p F hN r (by omega) hto).mono ?_
                  rintro e w9 ⟨rfl, k9⟩
                  go_wp2
                  go_ret
                  have HE : R = rcptR s r := by rw [HR.out, rcpt_eq s r HRT.out]; rfl
                  rw [HE]
                  exact ⟨rfl, RStep.from' H.out (Kept.of_below HB.out) h8 k9⟩
                · have eRCPT : (v == [82, 67, 80, 84]) = false := beq_eq_false_iff_ne.2 qRCPT
                  have NRCPT := Lib.hid qRCPT
                  clear qRCPT
                  by_cases qVRFY : v = [86, 82, 70, 89]
                  · subst qVRFY
                    go_wp2_with fail
                    refine (replyR_252 _).mono ?_
                    rintro e w9 ⟨rfl, hb9⟩
                    go_wp2
                    go_ret
                    have HE : R = (replyL 252, s) := by rw [HR.out]; rfl
                    rw [HE]
                    exact ⟨rfl, RStep.same H.out (below_then' HB.out hb9) h8⟩
                  · have eVRFY : (v == [86, 82, 70, 89]) = false := beq_eq_false_iff_ne.2 qVRFY
                    have NVRFY := Lib.hid qVRFY
                    clear qVRFY
                    by_cases qNOOP : v = [78, 79, 79, 80]
                    · subst qNOOP
                      go_wp2_with fail
                      refine (replyR_250 _).mono ?_
                      rintro e w9 ⟨rfl, hb9⟩
                      go_wp2
                      go_ret
                      have HE : R = (replyL 250, s) := by rw [HR.out]; rfl
                      rw [HE]
                      exact ⟨rfl, RStep.same H.out (below_then' HB.out hb9) h8⟩
                    · have eNOOP : (v == [78, 79, 79, 80]) = false := beq_eq_false_iff_ne.2 qNOOP
                      have NNOOP := Lib.hid qNOOP
                      clear qNOOP
                      by_cases qDATA : v = [68, 65, 84, 65]
                      · subst qDATA
                        have HV : Hid (R = bareS dataS s r) := by unfold Hid; rw [HR.out]; rfl
                        by_cases hr0 : r = []
                        · subst hr0
                          have HV2 : Hid (R = dataS s) := by unfold Hid; rw [HV.out]; rfl
                          have hN := H.out.below HB.out
                          have z8 := HB.out.size
                          go_wp2_with fail
                          refine (bareData_calls wz (by omega) b s p F hN HW.out).mono ?_
                          rintro e w9 ⟨rfl, k9⟩
                          go_wp2
                          go_ret
                          rw [HV2.out]
                          exact ⟨rfl, RStep.from' H.out (Kept.of_below HB.out) h8 k9⟩
                        · have hem : List.isEmpty r = false := by simpa using hr0
                          have HR0 := Lib.hid hr0
                          clear hr0
                          go_wp2_with fail
                          refine (replyR_501 _).mono ?_
                          rintro e w9 ⟨rfl, hb9⟩
                          go_wp2
                          go_ret
                          have HE : R = (replyL 501, s) := by rw [HV.out]; unfold bareS; rw [if_neg HR0.out]
                          rw [HE]
                          exact ⟨rfl, RStep.same H.out (below_then' HB.out hb9) h8⟩
                      · have eDATA : (v == [68, 65, 84, 65]) = false := beq_eq_false_iff_ne.2 qDATA
                        have NDATA := Lib.hid qDATA
                        clear qDATA
                        by_cases qRSET : v = [82, 83, 69, 84]
                        · subst qRSET
                          have HV : Hid (R = bareS rsetS s r) := by unfold Hid; rw [HR.out]; rfl
                          by_cases hr0 : r = []
                          · subst hr0
                            have HV2 : Hid (R = rsetS s) := by unfold Hid; rw [HV.out]; rfl
                            have hN := H.out.below HB.out
                            have z8 := HB.out.size
                            go_wp2_with fail
                            refine (bareRset_calls wz (by omega) b s p F hN ).mono ?_
                            rintro e w9 ⟨rfl, k9⟩
                            go_wp2
                            go_ret
                            rw [HV2.out]
                            exact ⟨rfl, RStep.from' H.out (Kept.of_below HB.out) h8 k9⟩
                          · have hem : List.isEmpty r = false := by simpa using hr0
                            have HR0 := Lib.hid hr0
                            clear hr0
                            go_wp2_with fail
                            refine (replyR_501 _).mono ?_
                            rintro e w9 ⟨rfl, hb9⟩
                            go_wp2
                            go_ret
                            have HE : R = (replyL 501, s) := by rw [HV.out]; unfold bareS; rw [if_neg HR0.out]
                            rw [HE]
                            exact ⟨rfl, RStep.same H.out (below_then' HB.out hb9) h8⟩
                        · have eRSET : (v == [82, 83, 69, 84]) = false := beq_eq_false_iff_ne.2 qRSET
                          have NRSET := Lib.hid qRSET
                          clear qRSET
                          by_cases qQUIT : v = [81, 85, 73, 84]
                          · subst qQUIT
                            have HV : Hid (R = bareS quitS s r) := by unfold Hid; rw [HR.out]; rfl
                            by_cases hr0 : r = []
                            · subst hr0
                              have HV2 : Hid (R = quitS s) := by unfold Hid; rw [HV.out]; rfl
                              have hN := H.out.below HB.out
                              have z8 := HB.out.size
                              go_wp2_with fail
                              refine (bareQuit_calls wz (by omega) b s p F hN ).mono ?_
                              rintro e w9 ⟨rfl, k9⟩
                              go_wp2
                              go_ret
                              rw [HV2.out]
                              exact ⟨rfl, RStep.from' H.out (Kept.of_below HB.out) h8 k9⟩
                            · have hem : List.isEmpty r = false := by simpa using hr0
                              have HR0 := Lib.hid hr0
                              clear hr0
                              go_wp2_with fail
                              refine (replyR_501 _).mono ?_
                              rintro e w9 ⟨rfl, hb9⟩
                              go_wp2
                              go_ret
                              have HE : R = (replyL 501, s) := by rw [HV.out]; unfold bareS; rw [if_neg HR0.out]
                              rw [HE]
                              exact ⟨rfl, RStep.same H.out (below_then' HB.out hb9) h8⟩
                          · have eQUIT : (v == [81, 85, 73, 84]) = false := beq_eq_false_iff_ne.2 qQUIT
                            have NQUIT := Lib.hid qQUIT
                            clear qQUIT
                            go_wp2_with fail
                            refine (replyR_500 _).mono ?_
                            rintro e w9 ⟨rfl, hb9⟩
                            go_wp2
                            go_ret
                            have HE : R = (replyL 500, s) := by rw [HR.out]; exact doS_else s v r NEHLO.out NHELO.out NMAIL.out NRCPT.out NVRFY.out NNOOP.out NDATA.out NRSET.out NQUIT.out
                            rw [HE]
                            exact ⟨rfl, RStep.same H.out (below_then' HB.out hb9) h8⟩
      | succ g =>
        have hiK : i < K := by omega
        have hil : i < c.length := by omega
        have d1 : decide ((i : Int) < (c.length : Int)) = true := by simp; omega
        have hi0 : (0 : Int) ≤ (i : Int) := by omega
        have hi1 : (i : Int) < (c.length : Int) := by omega
        have hcz : i < (⟨c.toArray⟩ : ByteArray).size := hil
        have HXB : Hid (blanks.contains ((⟨c.toArray⟩ : ByteArray)[i]'hcz) = false) := HIN.out i hcz hiK
        have hjw : IntKind.i64.wrap ((i : Int) + 1) = ((i + 1 : Nat) : Int) := by rw [IntWalk.i64_in _ ⟨by omega, by omega⟩]; omega
        go_wp2_with (go_at_call 75; refine (blankR_calls _ _).mono ?_; rw [HXB.out]; rintro e wy ⟨rfl, hby⟩)
        go_roundg g
        case measure => omega
        case rel => exact ⟨i + 1, by omega, by simp, below_then' HBX.out hby⟩
end Go.Proofs.YtapanjfheddfnaaGreatDoor
end
