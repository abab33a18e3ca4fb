/- A session and its messages, both of a call's own: what each method leaves of the two. -/
import Derived.Test.YtapanjfheddfnaaGreatDoorMails
import Derived.Test.YtapanjfheddfnaaGreatDoorFeed2
import Derived.Test.YtapanjfheddfnaaGreatDoorFew
namespace Go.Proofs.YtapanjfheddfnaaGreatDoor
open Go.RowKit Go.Shelf

/-! ### The sessions stand well -/
theorem runF_ok {T : Nat} : ∀ (n : Nat) (s : Sess) (out : Bs), Ok s T → Ok (runF n s out).2 T
  | 0, s, out, h => h
  | n + 1, s, out, h => by
    unfold runF
    cases hk : s.kept with
    | nil => exact h
    | cons x ks =>
      dsimp only
      split
      · exact h
      · rename_i hc
        simp only [Bool.or_eq_true, not_or, Bool.not_eq_true] at hc
        exact runF_ok n _ _ (turn_ok hk hc.1 h).1
theorem feed_ok {T : Nat} {s : Sess} (h : Ok s T) (c : Bs) : Ok (feedS s c).2 (T + 2 * c.length) := runF_ok _ _ _ (pushed_ok h)
theorem answer_ok {T : Nat} {s : Sess} (h : Ok s T) (e : Int) : Ok (answerS s e).2 T := by
  unfold answerS
  split
  · refine ⟨h.most, h.rest, by simp [doneS, resetS], ?_, ⟨fun q => absurd rfl q, fun q => absurd rfl q, fun q => by simp [doneS, resetS] at q⟩⟩
    have := h.vol
    unfold vol at this ⊢
    simp [doneS, resetS] at this ⊢
    omega
  · exact h
theorem new_ok (m : Int) : Ok (newS m) 0 :=
  ⟨by unfold newS mostL; simp only; omega, by simp [newS], by simp [newS], by simp [newS, vol], ⟨fun q => absurd rfl q, fun q => absurd rfl q, fun q => by simp [newS] at q⟩⟩
theorem mail_waits {T : Nat} {s : Sess} (h : Ok s T) (hw : s.waits = true) : ∃ a y, s.sender = some a ∧ s.body = some y ∧ mailE s = (a, s.rcp, y) := by
  have hb := h.inv.waits hw
  have hs := h.inv.body hb
  obtain ⟨y, hy⟩ := Option.ne_none_iff_exists'.1 hb
  obtain ⟨a, ha⟩ := Option.ne_none_iff_exists'.1 hs
  exact ⟨a, y, ha, hy, by unfold mailE; rw [hw, ha, hy]; rfl⟩

/-- A slice of error numbers as the caller hands it. -/
def IntsAt (W : World) (v : Value) (l : List Int) : Prop :=
  ∃ a c, v = .slice a l.length c ∧ (l ≠ [] → ∃ g off, a = some ⟨g, off, none⟩ ∧ ∀ j x, l[j]? = some x → W.cell? ⟨g, off + j, none⟩ = some (.int .i64 x))
theorem IntsAt.below {W W' : World} {v : Value} {l : List Int} (h : IntsAt W v l) (hb : Below W.heap.size W W') : IntsAt W' v l := by
  obtain ⟨a, c, hv, hc⟩ := h
  refine ⟨a, c, hv, fun hn => ?_⟩
  obtain ⟨g, off, ha, hr⟩ := hc hn
  exact ⟨g, off, ha, fun j x hx => (World.cell?_of_block (hb.block g (World.block_lt_of_cell? _ _ (hr j x hx)))).trans (hr j x hx)⟩

/-! ### In the heap -/
/-- The session s at block b, the messages ms in the slice value vm: apart from each other; both lie behind w0's end or in F0; the rest of w0 is as it was. -/
def InR (F0 : Nat → Prop) (w0 : World) (b : Nat) (s : Sess) (vm : Value) (ms : List Mail) (W : World) : Prop :=
  ∃ (p : SP) (F M : Nat → Prop), SessAt W b s p F ∧ MailsAt W vm ms M ∧ (∀ k, F k → ¬ M k) ∧ (∀ k, F k → F0 k ∨ w0.heap.size ≤ k) ∧ (∀ k, M k → w0.heap.size ≤ k) ∧ Kept F0 w0 W
/-- And a copy of the recipients, of its own. -/
def InRv (F0 : Nat → Prop) (w0 : World) (b : Nat) (s : Sess) (vm : Value) (ms : List Mail) (v2 : Value) (l : List Bs) (W : World) : Prop :=
  ∃ (p : SP) (F M : Nat → Prop), SessAt W b s p F ∧ MailsAt W vm ms M ∧ (∀ k, F k → ¬ M k) ∧ (∀ k, F k → F0 k ∨ w0.heap.size ≤ k) ∧ (∀ k, M k → w0.heap.size ≤ k) ∧ Kept F0 w0 W ∧
    RowAt W 9 v2 (strsV l) ∧ (∀ k, v2.ownBlock = some k → ¬ F k ∧ w0.heap.size ≤ k)
section
variable {F0 : Nat → Prop} {w0 W W' : World} {b : Nat} {s s' : Sess} {vm : Value} {ms : List Mail}
theorem InR.size (h : InR F0 w0 b s vm ms W) : w0.heap.size ≤ W.heap.size := by obtain ⟨p, F, M, _, _, _, _, _, hk⟩ := h; exact hk.size
theorem InR.glob (h : InR F0 w0 b s vm ms W) (G : Glob w0) (h0 : ∀ k, F0 k → 8 ≤ k) : Glob W := by
  obtain ⟨p, F, M, _, _, _, _, _, hk⟩ := h
  exact G.kept hk h0
theorem InR.slice (h : InR F0 w0 b s vm ms W) : ∃ a c, vm = .slice a ms.length c := by
  obtain ⟨p, F, M, _, hm, _⟩ := h
  exact hm.slice
theorem InR.reads (h : InR F0 w0 b s vm ms W) (h0 : ∀ k, F0 k → False) {v : Value} {l : List Bs} (hr : ReadsAt w0 v l) : ReadsAt W v l := by
  obtain ⟨p, F, M, _, _, _, _, _, hk⟩ := h
  exact hr.below (hk.below fun k q => (h0 k q).elim)
/-- A method. -/
theorem InR.call (h : InR F0 w0 b s vm ms W) {f : Nat} {args : Array Value} {r : Value}
    (hc : ∀ (p : SP) (F : Nat → Prop), SessAt W b s p F → Calls Tryz.prog f args W fun e w' => e = .returned r ∧ Step b F W w' s') :
    Calls Tryz.prog f args W fun e w' => e = .returned r ∧ InR F0 w0 b s' vm ms w' := by
  obtain ⟨p, F, M, hs, hm, hd, hF, hM, hk⟩ := h
  refine (hc p F hs).mono fun e w' ⟨he, k1, p1, h1⟩ => ⟨he, ?_⟩
  have z := hk.size
  have zz : ∀ k, M k → k < W.heap.size := by obtain ⟨vs, _, _, _, _, _, q⟩ := hm; exact q
  refine ⟨p1, Fresh F W w', M, h1, hm.frame k1 fun k q q2 => hd k q2 q, fun k q q2 => ?_, fun k q => ?_, hM, hk.trans' k1 fun k q => hF k q⟩
  · rcases q with q | q
    · exact hd k q q2
    · have := zz k q2; omega
  · rcases q with q | q
    · exact hF k q
    · exact .inr (by omega)
theorem InR.feed (h : InR F0 w0 b s vm ms W) (G : Glob W) (T : Nat) (hok : Ok s T) (chunk : Bs) (hT : T + 2 * chunk.length ≤ 1000000) :
    Calls Tryz.prog 14 #[.pointer (some ⟨b, 0, none⟩), S chunk] W fun e w' => e = .returned (.tuple #[S (feedS s chunk).1, .bool (feedS s chunk).2.waits]) ∧ InR F0 w0 b (feedS s chunk).2 vm ms w' :=
  h.call fun p F hs => feed_calls W b s p F hs G T hok chunk hT
theorem InR.answer (h : InR F0 w0 b s vm ms W) (G : Glob W) (x : Int) :
    Calls Tryz.prog 21 #[.pointer (some ⟨b, 0, none⟩), .int .i64 x] W fun e w' => e = .returned (S (answerS s x).1) ∧ InR F0 w0 b (answerS s x).2 vm ms w' :=
  h.call fun p F hs => answer_calls W b s p F hs G x
theorem InR.over (h : InR F0 w0 b s vm ms W) : Calls Tryz.prog 16 #[.pointer (some ⟨b, 0, none⟩)] W fun e w' => e = .returned (.bool s.over) ∧ w' = W := by
  obtain ⟨p, F, M, hs, _⟩ := h
  exact over_calls W b s p F hs
theorem InR.mail (h : InR F0 w0 b s vm ms W) (G : Glob W) {T : Nat} (hok : Ok s T) (hw : s.waits = true) :
    Calls Tryz.prog 19 #[.pointer (some ⟨b, 0, none⟩)] W fun e w' => ∃ v2, e = .returned (.agg #[S (mailE s).1, v2, S (mailE s).2.2]) ∧ InRv F0 w0 b s vm ms v2 (mailE s).2.1 w' := by
  obtain ⟨p, F, M, hs, hm, hd, hF, hM, hk⟩ := h
  obtain ⟨a, y, ha, hy, he⟩ := mail_waits hok hw
  rw [he]
  refine (env_waits W b s p F hs G hw a y ha hy (by have := hok.rcp; omega)).mono fun e w' ⟨⟨v2, he, hr, hv⟩, h1, k1⟩ => ⟨v2, he, ?_⟩
  have z := hk.size
  refine ⟨p, F, M, h1, hm.frame k1 fun k q q2 => hd k q2 q, hd, hF, hM, hk.trans' k1 fun k q => hF k q, hr, fun k q => ⟨fun q2 => ?_, by have := hv k q; omega⟩⟩
  have := (hs.blk k q2).2
  have := hv k q
  omega
theorem InRv.size {v2 : Value} {l : List Bs} (h : InRv F0 w0 b s vm ms v2 l W) : w0.heap.size ≤ W.heap.size := by obtain ⟨p, F, M, _, _, _, _, _, hk, _⟩ := h; exact hk.size
/-- append of the message. -/
theorem InRv.append {v2 : Value} {m : Mail} (h : InRv F0 w0 b s vm ms v2 m.2.1 W) (h8 : 8 ≤ W.heap.size) (hn : ms.length ≤ 1000000) (ty : TypeId) :
    ∃ v4 w4, (Builtin.append_ #[40, 40] ty #[vm, .slice (some ⟨W.heap.size, 0, none⟩) 1 1]).run Tryz.prog (W.alloc (.cells #[S m.1, v2, S m.2.2] 35)) = .ok v4 w4 ∧ InR F0 w0 b s v4 (ms ++ [m]) w4 := by
  obtain ⟨p, F, M, hs, ⟨vs, hm⟩, hd, hF, hM, hk, hr, hv⟩ := h
  obtain ⟨W1, hW1⟩ : ∃ W1, W.alloc (.cells #[S m.1, v2, S m.2.2] 35) = W1 := ⟨_, rfl⟩
  have hb1 : Below W.heap.size W W1 := by rw [← hW1]; exact (Below.refl _ _).alloc (Nat.le_refl _) _
  have z1 : W1.heap.size = W.heap.size + 1 := by rw [← hW1]; simp
  have hn1 : W1.heap[W.heap.size]? = some (.cells #[S m.1, v2, S m.2.2] 35 (0, 0)) := by rw [← hW1]; exact heap_alloc_new _ _
  rw [hW1]
  have hm1 : MailsV W1 vm ms vs M := by
    obtain ⟨vs', hl', ho', hr', q1, q2, q3⟩ := (show MailsAt W vm ms M from ⟨vs, hm⟩).below hb1
    obtain ⟨hl, ho, hrr, p1, p2, p3⟩ := hm
    refine ⟨hl, ⟨ho.1, ?_⟩, fun j m' v hm' hv' => (hrr j m' v hm' hv').heap fun k e => hb1.block k ((hrr j m' v hm' hv').lt k e).2, p1, p2, q3⟩
    rcases ho.2 with q | ⟨g, cap, cur, hv, hb, hg, rest⟩
    · exact .inl q
    · exact .inr ⟨g, cap, cur, hv, hb, (hb1.block g (Array.getElem?_eq_some_iff.1 hg).1).trans hg, rest⟩
  have hr1 : RowAt W1 9 v2 (strsV m.2.1) := hr.heap fun k e => hb1.block k (hr.lt k e).2
  obtain ⟨va, vc, hva⟩ := hr.slice
  obtain ⟨v4, w4, hrun, ho4, hg4, hv4⟩ := append3 hm1.2.1 (by omega) ty ⟨W.heap.size, 0, none⟩ 1 [S m.1, v2, S m.2.2] rfl (by
    intro j u hj
    rw [Addr.add_lit, Nat.zero_add]
    simp only [World.cell?, hn1]
    simpa using hj) (by
    intro u hu
    rw [hva] at hu
    simp only [List.mem_cons, List.not_mem_nil, or_false] at hu
    rcases hu with rfl | rfl | rfl <;> rfl) hn
  refine ⟨v4, w4, hrun, p, F, _, ?_, hm1.append m hr1 ho4 hg4 hv4, fun k q q2 => ?_, hF, fun k q => ?_, ?_⟩
  · have hk4 : Kept (fun k => vm.ownBlock = some k) W w4 := Kept.grown (Kept.of_below hb1) hg4 (fun k q => .inl q)
    exact hs.frame hk4 fun k q q2 => hd k q (hm.2.2.2.1 k q2)
  · have hk' := (hs.blk k q).2
    rcases q2 with q2 | q2 | q2
    · exact hd k q q2
    · exact (hv k q2).1 q
    · omega
  · have z := hk.size
    rcases q with q | q | q
    · exact hM k q
    · exact (hv k q).2
    · omega
  · exact Kept.grown (hk.trans (Kept.of_below hb1)) hg4 (fun k q => .inr (hM k (hm.2.2.2.1 k q)))
end
end Go.Proofs.YtapanjfheddfnaaGreatDoor
