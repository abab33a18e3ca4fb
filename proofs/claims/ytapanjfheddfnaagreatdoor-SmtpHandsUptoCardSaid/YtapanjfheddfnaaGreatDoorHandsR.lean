/- A session and a list of texts, both of a call's own. -/
import Derived.Test.YtapanjfheddfnaaGreatDoorInR
import Derived.Test.YtapanjfheddfnaaGreatDoorHandsP
namespace Go.Proofs.YtapanjfheddfnaaGreatDoor
open Go.RowKit Go.Shelf

/-- A slice of 16-bit numbers as the caller hands it. -/
def ShortsAt (W : World) (v : Value) (l : List Nat) : Prop :=
  ∃ a c, v = .slice a l.length c ∧ (∀ x ∈ l, x < 65536) ∧ (l ≠ [] → ∃ g off, a = some ⟨g, off, none⟩ ∧ ∀ j x, l[j]? = some x → W.cell? ⟨g, off + j, none⟩ = some (.int .u16 (x : Nat)))
theorem ShortsAt.below {W W' : World} {v : Value} {l : List Nat} (h : ShortsAt W v l) (hb : Below W.heap.size W W') : ShortsAt W' v l := by
  obtain ⟨a, c, hv, hx, hc⟩ := h
  refine ⟨a, c, hv, hx, fun hn => ?_⟩
  obtain ⟨g, off, ha, hr⟩ := hc hn
  exact ⟨g, off, ha, fun j x hx => (World.cell?_of_block (hb.block g (World.block_lt_of_cell? _ _ (hr j x hx)))).trans (hr j x hx)⟩

def HandR (w0 : World) (b : Nat) (s : Sess) (v : Value) (l : List Bs) (W : World) : Prop :=
  ∃ (p : SP) (F : Nat → Prop), SessAt W b s p F ∧ RowAt W 9 v (strsV l) ∧ (∀ k, v.ownBlock = some k → ¬ F k) ∧ (∀ k, v.ownBlock = some k → w0.heap.size ≤ k) ∧ (∀ k, F k → w0.heap.size ≤ k) ∧ Below w0.heap.size w0 W
section
variable {w0 W W' : World} {b : Nat} {s s' : Sess} {v : Value} {l : List Bs}
theorem HandR.row (h : HandR w0 b s v l W) : RowAt W 9 v (strsV l) := by obtain ⟨p, F, hs, hr, _⟩ := h; exact hr
theorem HandR.slice (h : HandR w0 b s v l W) : ∃ a c, v = .slice a l.length c := by
  obtain ⟨a, c, e⟩ := h.row.slice
  rw [strsV_len] at e
  exact ⟨a, c, e⟩
theorem HandR.keep (h : HandR w0 b s v l W) : Below w0.heap.size w0 W := by obtain ⟨p, F, _, _, _, _, _, hb⟩ := h; exact hb
theorem HandR.reads (h : HandR w0 b s v l W) : ReadsAt W v l := by
  obtain ⟨a, c, hv⟩ := h.slice
  subst hv
  refine ⟨a, c, rfl, fun hn => ?_⟩
  obtain ⟨g, off, cap, e, hc⟩ := h.row.cells (by simpa [strsV] using hn)
  rw [strsV_len] at e
  cases e
  exact ⟨g, off, rfl, fun j x hx => hc j _ (by simp [strsV, hx])⟩
theorem HandR.frame (h : HandR w0 b s v l W) (hb : Below W.heap.size W W') : HandR w0 b s v l W' := by
  obtain ⟨p, F, hs, hr, h1, h2, h3, h4⟩ := h
  refine ⟨p, F, hs.frame (S := NoBlk) (Kept.of_below hb) (fun _ _ q => q), hr.heap fun k q => hb.block k (hr.lt k q).2, h1, h2, h3, h4.trans (hb.mono h4.size)⟩
theorem HandR.fresh (h : HandR w0 b s v l W) : HandR w0 b s (.slice none 0 0) [] W := by
  obtain ⟨p, F, hs, hr, h1, h2, h3, h4⟩ := h
  exact ⟨p, F, hs, RowAt.nil _ _, fun k q => (by simp [Value.ownBlock] at q), fun k q => (by simp [Value.ownBlock] at q), h3, h4⟩
theorem HandR.call (h : HandR w0 b s v l W) {f : Nat} {args : Array Value} {r : Value}
    (hc : ∀ (p : SP) (F : Nat → Prop), SessAt W b s p F → Calls Tryz.prog f args W fun e w' => e = .returned r ∧ Step b F W w' s') :
    Calls Tryz.prog f args W fun e w' => e = .returned r ∧ HandR w0 b s' v l w' := by
  obtain ⟨p, F, hs, hr, h1, h2, h3, h4⟩ := h
  refine (hc p F hs).mono fun e w' ⟨he, k1, p1, hs1⟩ => ⟨he, ?_⟩
  have z := h4.size
  refine ⟨p1, Fresh F W w', hs1, hr.kept k1 fun k q q2 => h1 k q q2, fun k q q2 => ?_, h2, fun k q => ?_, h4.trans ((k1.below_of z h3))⟩
  · rcases q2 with q2 | q2
    · exact h1 k q q2
    · have := (hr.lt k q).2; omega
  · rcases q with q | q
    · exact h3 k q
    · omega
theorem HandR.feed (h : HandR w0 b s v l W) (G : Glob W) (T : Nat) (hok : Ok s T) (chunk : Bs) (hT : T + 2 * chunk.length ≤ 1000000) :
    Calls Tryz.prog 14 #[.pointer (some ⟨b, 0, none⟩), S chunk] W fun e w' => e = .returned (.tuple #[S (feedS s chunk).1, .bool (feedS s chunk).2.waits]) ∧ HandR w0 b (feedS s chunk).2 v l w' :=
  h.call fun p F hs => feed_calls W b s p F hs G T hok chunk hT
theorem HandR.answer (h : HandR w0 b s v l W) (G : Glob W) (x : Int) :
    Calls Tryz.prog 21 #[.pointer (some ⟨b, 0, none⟩), .int .i64 x] W fun e w' => e = .returned (S (answerS s x).1) ∧ HandR w0 b (answerS s x).2 v l w' :=
  h.call fun p F hs => answer_calls W b s p F hs G x
theorem HandR.mail (h : HandR w0 b s v l W) (G : Glob W) (hw : s.waits = true) (a y : Bs) (hsd : s.sender = some a) (hy : s.body = some y) (hr : s.rcp.length ≤ 1000000) :
    Calls Tryz.prog 19 #[.pointer (some ⟨b, 0, none⟩)] W fun e w' => ∃ v2, e = .returned (.agg #[S a, v2, S y]) ∧ RowAt w' 9 v2 (strsV s.rcp) ∧ HandR w0 b s v l w' := by
  obtain ⟨p, F, hs, hro, h1, h2, h3, h4⟩ := h
  refine (env_waits W b s p F hs G hw a y hsd hy hr).mono fun e w' ⟨⟨v2, he, hr2, _⟩, hs1, k1⟩ => ⟨v2, he, hr2, p, F, hs1, hro.kept k1 fun k q q2 => h1 k q q2, h1, h2, h3, h4.trans (k1.below_of h4.size h3)⟩
set_option maxRecDepth 100000 in
/-- append of one text. -/
theorem HandR.append (h : HandR w0 b s v l W) (h8 : 8 ≤ W.heap.size) (hn : l.length ≤ 1000) (x : Bs) :
    ∃ v4 w4, (Builtin.append_ #[22, 22] 22 #[v, .slice (some ⟨W.heap.size, 0, none⟩) 1 1]).run Tryz.prog (W.alloc (.cells #[S x] 9)) = .ok v4 w4 ∧ HandR w0 b s v4 (l ++ [x]) w4 := by
  obtain ⟨p, F, hs, hr, h1, h2, h3, h4⟩ := h
  obtain ⟨W1, hW1⟩ : ∃ W1, W.alloc (.cells #[S x] 9) = W1 := ⟨_, rfl⟩
  have hb1 : Below W.heap.size W W1 := by rw [← hW1]; exact (Below.refl _ _).alloc (Nat.le_refl _) _
  have z1 : W1.heap.size = W.heap.size + 1 := by rw [← hW1]; simp
  rw [hW1]
  obtain ⟨v4, w4, hrun, hr4, hg4, hv4⟩ := RowAt.append (P := Tryz.prog) (w := W1) (hr.heap fun k q => hb1.block k (hr.lt k q).2) (by omega) 22 22 22 _ _ 16 Tryz.underlying22 (by rfl) (by rfl) (by rfl) (by rfl) (by rfl)
    (.slice (some ⟨W.heap.size, 0, none⟩) 1 1) 1 [S x]
    (Src.ofSlice W1 Tryz.underlying22 _ _ _ _ rfl (fun j u hj => by
      cases j with
      | zero => simp at hj; subst hj; rw [← hW1]; exact World.cell?_alloc_new _ _ _ 0
      | succ j => simp at hj) (by simp [Value.oneCell'])) (by rw [strsV_len]; simp [maxLen]; omega) (by rw [strsV_len]; omega)
  have z := h4.size
  refine ⟨v4, w4, hrun, p, F, ?_, ?_, fun k q q2 => ?_, fun k q => ?_, h3, ?_⟩
  · have hk4 : Kept (fun k => v.ownBlock = some k) W w4 := Kept.grown (Kept.of_below hb1) hg4 (fun k q => .inl q)
    exact hs.frame hk4 fun k q q2 => h1 k q2 q
  · have : strsV (l ++ [x]) = strsV l ++ [S x] := by simp [strsV]
    rw [this]
    exact hr4
  · have hk' := (hs.blk k q2).2
    rcases hv4 k q with q3 | q3
    · exact h1 k q3 q2
    · omega
  · rcases hv4 k q with q3 | q3
    · exact h2 k q3
    · omega
  · exact (h4.trans (hb1.mono z)).trans ((Kept.grown (S := fun k => v.ownBlock = some k) (Kept.refl _ W1) hg4 (fun k q => .inl q)).below_of (by omega) h2)
end
end Go.Proofs.YtapanjfheddfnaaGreatDoor
