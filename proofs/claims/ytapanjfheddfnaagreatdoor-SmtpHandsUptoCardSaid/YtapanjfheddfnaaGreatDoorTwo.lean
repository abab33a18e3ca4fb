/- Two sessions side by side, both of the call's own. -/
import Derived.Test.YtapanjfheddfnaaGreatDoorDrainW
import Derived.Test.YtapanjfheddfnaaGreatDoorSmallW
namespace Go.Proofs.YtapanjfheddfnaaGreatDoor
open Go.RowKit Go.Shelf

def Two (w0 : World) (bs bt : Nat) (s t : Sess) (W : World) : Prop :=
  ∃ (ps : SP) (Fs : Nat → Prop) (pt : SP) (Ft : Nat → Prop), SessAt W bs s ps Fs ∧ SessAt W bt t pt Ft ∧ (∀ k, Fs k → ¬ Ft k) ∧ (∀ k, Fs k → w0.heap.size ≤ k) ∧ (∀ k, Ft k → w0.heap.size ≤ k) ∧ Below w0.heap.size w0 W
def TwoM (w0 : World) (bs bt : Nat) (s t : Sess) (vm : Value) (ms : List Mail) (W : World) : Prop :=
  ∃ (ps : SP) (Fs : Nat → Prop) (pt : SP) (Ft : Nat → Prop) (M : Nat → Prop), SessAt W bs s ps Fs ∧ SessAt W bt t pt Ft ∧ MailsAt W vm ms M ∧ (∀ k, Fs k → ¬ Ft k) ∧ (∀ k, Fs k → ¬ M k) ∧ (∀ k, Ft k → ¬ M k) ∧ (∀ k, Fs k → w0.heap.size ≤ k) ∧ (∀ k, Ft k → w0.heap.size ≤ k) ∧ Below w0.heap.size w0 W
section
variable {w0 W : World} {bs bt : Nat} {s t s' : Sess}
theorem Two.swap (h : Two w0 bs bt s t W) : Two w0 bt bs t s W := by
  obtain ⟨ps, Fs, pt, Ft, hs, ht, hd, h1, h2, hb⟩ := h
  exact ⟨pt, Ft, ps, Fs, ht, hs, fun k q q' => hd k q' q, h2, h1, hb⟩
theorem Two.glob (h : Two w0 bs bt s t W) (G : Glob w0) : Glob W := by
  obtain ⟨ps, Fs, pt, Ft, hs, ht, hd, h1, h2, hb⟩ := h
  exact G.below' hb
theorem Two.bel (h : Two w0 bs bt s t W) : Below w0.heap.size w0 W := by
  obtain ⟨ps, Fs, pt, Ft, hs, ht, hd, h1, h2, hb⟩ := h
  exact hb
theorem Two.made {w1 w2 : World} {ps pt : SP} (hs : SessAt w1 bs s ps (fun k => k = w0.heap.size ∨ k = w0.heap.size + 1)) (hb1 : Below w0.heap.size w0 w1) (ht : SessAt w2 bt t pt (fun k => k = w1.heap.size ∨ k = w1.heap.size + 1)) (hb2 : Below w1.heap.size w1 w2) : Two w0 bs bt s t w2 := by
  have z := (hs.blk _ (.inr rfl)).2
  refine ⟨ps, _, pt, _, hs.below hb2, ht, ?_, ?_, ?_, below_then' hb1 hb2⟩
  · rintro k (q | q) (q2 | q2) <;> omega
  · rintro k (q | q) <;> omega
  · rintro k (q | q) <;> omega
theorem Two.left (h : Two w0 bs bt s t W) {f : Nat} {args : Array Value} {r : Value} (hc : ∀ (p : SP) (F : Nat → Prop), SessAt W bs s p F → Calls Tryz.prog f args W fun e w' => e = .returned r ∧ Step bs F W w' s') :
    Calls Tryz.prog f args W fun e w' => e = .returned r ∧ Two w0 bs bt s' t w' := by
  obtain ⟨ps, Fs, pt, Ft, hs, ht, hd, h1, h2, hb⟩ := h
  refine (hc ps Fs hs).mono fun e w' ⟨he, k1, p1, q1⟩ => ⟨he, p1, Fresh Fs W w', pt, Ft, q1, ht.frame k1 fun k q q2 => hd k q2 q, ?_, ?_, h2, ?_⟩
  · rintro k (q | q) q2
    · exact hd k q q2
    · have := (ht.blk k q2).2; omega
  · rintro k (q | q)
    · exact h1 k q
    · have := hb.size; omega
  · exact hb.trans (k1.below_of hb.size h1)
theorem Two.feed (h : Two w0 bs bt s t W) (G : Glob w0) (T : Nat) (hok : Ok s T) (c : Bs) (hT : T + 2 * c.length ≤ 1000000) :
    Calls Tryz.prog 14 #[.pointer (some ⟨bs, 0, none⟩), S c] W fun e w' => e = .returned (.tuple #[S (feedS s c).1, .bool (feedS s c).2.waits]) ∧ Two w0 bs bt (feedS s c).2 t w' :=
  h.left fun p F hs => feed_calls W bs s p F hs (h.glob G) T hok c hT
theorem Two.answer (h : Two w0 bs bt s t W) (G : Glob w0) (x : Int) :
    Calls Tryz.prog 21 #[.pointer (some ⟨bs, 0, none⟩), .int .i64 x] W fun e w' => e = .returned (S (answerS s x).1) ∧ Two w0 bs bt (answerS s x).2 t w' :=
  h.left fun p F hs => answer_calls W bs s p F hs (h.glob G) x
theorem Two.drain (h : Two w0 bs bt s t W) (G : Glob w0) (T : Nat) (hok : Ok s T) (y : Bs) (hT : T + 2 * y.length ≤ 20000) (va : Value) (an : List Int) (ha : IntsAt w0 va an) (han : an.length ≤ 2000000) :
    Calls Tryz.prog 24 #[.pointer (some ⟨bs, 0, none⟩), S y, va] W fun e w' => ∃ vm, e = .returned (.tuple #[S (drainedL s y an).1, vm]) ∧ TwoM w0 bs bt (drainedL s y an).2.2 t vm (drainedL s y an).2.1 w' := by
  have GW := h.glob G
  obtain ⟨ps, Fs, pt, Ft, hs, ht, hd, h1, h2, hb⟩ := h
  refine (drained_calls W GW bs s ps Fs hs T hok y hT va an (fun W' k1 => ha.below (hb.trans (k1.below_of hb.size h1))) han).mono fun e w' ⟨vm, he, hin⟩ => ⟨vm, he, ?_⟩
  obtain ⟨p', F', M, q1, q2, q3, q4, q5, k1⟩ := hin
  have z := hb.size
  refine ⟨p', F', pt, Ft, M, q1, ht.frame k1 (fun k q q2 => hd k q2 q), q2, fun k q q' => ?_, q3, fun k q q' => ?_, fun k q => ?_, h2, hb.trans (k1.below_of hb.size h1)⟩
  · rcases q4 k q with q | q
    · exact hd k q q'
    · have := (ht.blk k q').2; omega
  · have := (ht.blk k q).2
    have := q5 k q'
    omega
  · rcases q4 k q with q | q
    · exact h1 k q
    · omega
theorem TwoM.drain {vm : Value} {ms : List Mail} (h : TwoM w0 bs bt s t vm ms W) (G : Glob w0) (T : Nat) (hok : Ok t T) (y : Bs) (hT : T + 2 * y.length ≤ 20000) (va : Value) (an : List Int) (ha : IntsAt w0 va an) (han : an.length ≤ 2000000) :
    Calls Tryz.prog 24 #[.pointer (some ⟨bt, 0, none⟩), S y, va] W fun e w' => ∃ vm2, e = .returned (.tuple #[S (drainedL t y an).1, vm2]) ∧
      (∃ p F, SessAt w' bs s p F) ∧ (∃ p F, SessAt w' bt (drainedL t y an).2.2 p F) ∧ (∃ M, MailsAt w' vm ms M) ∧ (∃ M, MailsAt w' vm2 (drainedL t y an).2.1 M) ∧ Below w0.heap.size w0 w' := by
  obtain ⟨ps, Fs, pt, Ft, M, hs, ht, hm, hd, hd1, hd2, h1, h2, hb⟩ := h
  refine (drained_calls W (G.below' hb) bt t pt Ft ht T hok y hT va an (fun W' k1 => ha.below (hb.trans (k1.below_of hb.size h2))) han).mono fun e w' ⟨vm2, he, hin⟩ => ⟨vm2, he, ?_⟩
  obtain ⟨p', F', M2, q1, q2, q3, q4, q5, k1⟩ := hin
  exact ⟨⟨ps, Fs, hs.frame k1 hd⟩, ⟨p', F', q1⟩, ⟨M, hm.frame k1 fun k q q' => hd2 k q' q⟩, ⟨M2, q2⟩, hb.trans (k1.below_of hb.size h2)⟩
end
end Go.Proofs.YtapanjfheddfnaaGreatDoor
