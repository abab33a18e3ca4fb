/- SmtpHello: behind an accepted greeting a session goes on as a new one does. No program here. -/
import Derived.Test.YtapanjfheddfnaaGreatDoorPieces
namespace Go.Proofs.YtapanjfheddfnaaGreatDoor

/-- The session, the flag of a long line another. -/
def withL (b : Bool) (s : Sess) : Sess := { s with long := b }
/-- The same, but for that flag where no text is taken. -/
def Alike (s t : Sess) : Prop := t = s ∨ (s.body = none ∧ ∃ b, t = withL b s)
def Blind (b : Bool) (s : Sess) (f : Sess → Bs × Sess) : Prop := (f (withL b s) = ((f s).1, withL b (f s).2) ∧ (f s).2.body = none) ∨ f (withL b s) = f s
theorem command_blind (b : Bool) (s : Sess) (hbd : s.body = none) (x : Bs) : Blind b s (fun s => commandS s x) := by
  have hh : ∀ (more : Nat → Bs) (rest : Bs), Blind b s (fun s => helloS s rest (more s.most)) := by
    intro more rest; refine .inl ?_; simp only [helloS]; split
    · exact ⟨rfl, hbd⟩
    · exact ⟨rfl, hbd⟩
  have hb : ∀ (f : Sess → Bs × Sess) (rest : Bs), Blind b s f → Blind b s (fun s => bareS f s rest) := by
    intro f rest hf
    unfold Blind bareS
    split
    · exact hf
    · exact .inl ⟨rfl, hbd⟩
  have hm : ∀ rest : Bs, Blind b s (fun s => mailS s rest) := by
    intro rest
    refine .inl ?_
    simp only [mailS]
    by_cases hc : s.greeted = false ∨ s.sender ≠ none
    · rw [if_pos hc, if_pos (show (withL b s).greeted = false ∨ (withL b s).sender ≠ none from hc)]
      exact ⟨rfl, hbd⟩
    · rw [if_neg hc, if_neg (show ¬ ((withL b s).greeted = false ∨ (withL b s).sender ≠ none) from hc)]
      cases pathL rest [70, 82, 79, 77, 58] with
      | none => exact ⟨rfl, hbd⟩
      | some ar =>
        obtain ⟨a, r⟩ := ar
        simp only [mailP]
        split
        · exact ⟨rfl, hbd⟩
        · cases optL r with
          | none => exact ⟨rfl, hbd⟩
          | some z =>
            simp only [withL]
            by_cases hz : (s.most : Int) < z
            · simp only [if_pos hz]; exact ⟨if_pos hz, hbd⟩
            · simp only [if_neg hz]; exact ⟨if_neg hz, hbd⟩
  have hr : ∀ rest : Bs, Blind b s (fun s => rcptS s rest) := by
    intro rest
    refine .inl ?_
    simp only [rcptS]
    by_cases hc : s.sender = none
    · rw [if_pos hc, if_pos (show (withL b s).sender = none from hc)]
      exact ⟨rfl, hbd⟩
    · rw [if_neg hc, if_neg (show ¬ (withL b s).sender = none from hc)]
      cases pathL rest [84, 79, 58] with
      | none => exact ⟨rfl, hbd⟩
      | some ar =>
        obtain ⟨a, r⟩ := ar
        simp only [rcptP, withL]
        by_cases h1 : r ≠ [] ∨ mayL a = false
        · simp only [if_pos h1]; first | exact ⟨rfl, hbd⟩ | exact ⟨trivial, hbd⟩
        · simp only [if_neg h1]
          by_cases h2 : s.rcp.contains a = true
          · simp only [if_pos h2]; exact ⟨if_pos h2, hbd⟩
          · simp only [if_neg h2]
            by_cases h3 : 16 ≤ s.rcp.length
            · simp only [if_pos h3]; exact ⟨(if_neg h2).trans (if_pos h3), hbd⟩
            · simp only [if_neg h3]; exact ⟨(if_neg h2).trans (if_neg h3), hbd⟩
  unfold Blind commandS
  split
  · unfold doS
    repeat' split
    · exact hh ehloT _
    · exact hh (fun _ => []) _
    · exact hm _
    · exact hr _
    · refine hb dataS _ ?_
      unfold Blind
      simp only [dataS, withL]
      by_cases h1 : s.rcp = []
      · exact .inl ⟨by simp only [if_pos h1]; exact if_pos h1, by simp only [if_pos h1]; exact hbd⟩
      · exact .inr (by simp only [if_neg h1]; exact if_neg h1)
    · exact hb rsetS _ (.inl ⟨rfl, hbd⟩)
    · exact hb quitS _ (.inl ⟨rfl, hbd⟩)
    · exact .inl ⟨rfl, hbd⟩
    · exact .inl ⟨rfl, hbd⟩
    · exact .inl ⟨rfl, hbd⟩
  · exact .inl ⟨rfl, hbd⟩
theorem turn_alike {s t : Sess} (h : Alike s t) (x : Bs) : (turnS t x).1 = (turnS s x).1 ∧ Alike (turnS s x).2 (turnS t x).2 := by
  rcases h with rfl | ⟨hb, b, rfl⟩
  · exact ⟨rfl, .inl rfl⟩
  · have e1 : turnS s x = commandS s x := by unfold turnS; rw [hb]
    have e2 : turnS (withL b s) x = commandS (withL b s) x := by unfold turnS; rw [show (withL b s).body = none from hb]
    rw [e1, e2]
    rcases command_blind b s hb x with ⟨h1, h2⟩ | h1
    · rw [show commandS (withL b s) x = _ from h1]; exact ⟨rfl, .inr ⟨h2, b, rfl⟩⟩
    · rw [show commandS (withL b s) x = _ from h1]; exact ⟨rfl, .inl rfl⟩
theorem Alike.f {s t : Sess} (h : Alike s t) : t.kept = s.kept ∧ t.waits = s.waits ∧ t.over = s.over ∧ t.rest = s.rest ∧ mailE t = mailE s := by
  rcases h with rfl | ⟨_, b, rfl⟩
  · exact ⟨rfl, rfl, rfl, rfl, rfl⟩
  · exact ⟨rfl, rfl, rfl, rfl, rfl⟩
theorem Alike.kept {s t : Sess} (h : Alike s t) (ks : List Bs) : Alike { s with kept := ks } { t with kept := ks } := by
  rcases h with rfl | ⟨hb, b, rfl⟩
  · exact .inl rfl
  · exact .inr ⟨hb, b, rfl⟩
theorem run_alike : ∀ (n : Nat) {s t : Sess} (out : Bs), Alike s t → (runF n t out).1 = (runF n s out).1 ∧ Alike (runF n s out).2 (runF n t out).2
  | 0, s, t, out, h => ⟨rfl, h⟩
  | n + 1, s, t, out, h => by
    obtain ⟨k1, k2, k3, _, _⟩ := h.f
    cases hk : s.kept with
    | nil =>
      have e1 : runF (n + 1) s out = (out, s) := by unfold runF; rw [hk]
      have e2 : runF (n + 1) t out = (out, t) := by unfold runF; rw [k1, hk]
      rw [e1, e2]; exact ⟨rfl, h⟩
    | cons x ks =>
      have e1 : runF (n + 1) s out = if s.waits || s.over then (out, s) else runF n (turnS { s with kept := ks } x).2 (out ++ (turnS { s with kept := ks } x).1) := by conv => lhs; unfold runF; rw [hk]
      have e2 : runF (n + 1) t out = if t.waits || t.over then (out, t) else runF n (turnS { t with kept := ks } x).2 (out ++ (turnS { t with kept := ks } x).1) := by conv => lhs; unfold runF; rw [k1, hk]
      rw [e1, e2]
      by_cases hc : (s.waits || s.over) = true
      · rw [if_pos hc, if_pos (show (t.waits || t.over) = true by rw [k2, k3]; exact hc)]; exact ⟨rfl, h⟩
      · rw [if_neg hc, if_neg (show ¬ (t.waits || t.over) = true by rw [k2, k3]; exact hc)]
        obtain ⟨e, ha⟩ := turn_alike (h.kept ks) x
        rw [e]
        exact run_alike n _ ha
theorem feed_alike {s t : Sess} (h : Alike s t) (c : Bs) : (feedS t c).1 = (feedS s c).1 ∧ Alike (feedS s c).2 (feedS t c).2 := by
  have hp : Alike (pushedS s c) (pushedS t c) := by
    rcases h with rfl | ⟨hb, b, rfl⟩
    · exact .inl rfl
    · exact .inr ⟨hb, b, rfl⟩
  have := run_alike (pushedS s c).kept.length [] hp
  unfold feedS
  rw [hp.f.1]
  exact this
theorem answer_alike {s t : Sess} (h : Alike s t) (e : Int) : (answerS t e).1 = (answerS s e).1 ∧ Alike (answerS s e).2 (answerS t e).2 := by
  unfold answerS
  rw [h.f.2.1]
  split
  · refine ⟨rfl, ?_⟩
    rcases h with rfl | ⟨hb, b, rfl⟩
    · exact .inl rfl
    · exact .inr ⟨rfl, b, rfl⟩
  · exact ⟨rfl, h⟩
theorem drain_alike (an : List Int) : ∀ (n : Nat) {s t : Sess} (out : Bs) (ms : List Mail), Alike s t → (drainF n t out ms an).1 = (drainF n s out ms an).1 ∧ (drainF n t out ms an).2.1 = (drainF n s out ms an).2.1 ∧ Alike (drainF n s out ms an).2.2 (drainF n t out ms an).2.2
  | 0, s, t, out, ms, h => ⟨rfl, rfl, h⟩
  | n + 1, s, t, out, ms, h => by
    unfold drainF
    rw [h.f.2.1]
    by_cases hw : s.waits = true
    · rw [if_pos hw, if_pos hw]
      obtain ⟨a1, a2⟩ := answer_alike h (an.getD ms.length 0)
      obtain ⟨b1, b2⟩ := feed_alike a2 []
      rw [a1, b1, h.f.2.2.2.2]
      exact drain_alike an n _ _ b2
    · rw [if_neg hw, if_neg hw]; exact ⟨rfl, rfl, h⟩

/-! ### Up to the greeting -/
/-- Each message that waits is answered so, what it says is let go. -/
def quietF : Nat → Int → Sess → Sess
  | 0, _, s => s
  | n + 1, e, s => if s.waits then quietF n e (feedS (answerS s e).2 []).2 else s
theorem quiet_drain (e : Int) (N : Nat) : ∀ (n : Nat) (s : Sess) (out : Bs) (ms : List Mail), ms.length + n ≤ N → quietF n e s = (drainF n s out ms (List.replicate N e)).2.2
  | 0, s, out, ms, _ => rfl
  | n + 1, s, out, ms, h => by
    unfold quietF drainF
    have hg : (List.replicate N e).getD ms.length 0 = e := by
      rw [List.getD_eq_getElem?_getD, List.getElem?_replicate, if_pos (by omega)]; rfl
    rw [hg]
    split
    · exact quiet_drain e N n _ _ _ (by simp; omega)
    · rfl
/-- A text of whole lines leaves nothing behind. -/
theorem push_whole (x : Bs) (r : Bs) (hr : r.length ≤ 1000) (h : x = [] ∧ r = [] ∨ x ≠ [] ∧ x.getLast? = some 10) : (pushL r x).1 = [] := by
  rcases h with ⟨rfl, rfl⟩ | ⟨hne, hl⟩
  · unfold pushL; rw [linesL_nil]; rfl
  · obtain ⟨y, rfl⟩ := List.getLast?_eq_some_iff.1 hl
    rw [pushL_append r y [10] hr]
    have hle := pushL_rest r y hr
    obtain ⟨r1, hr1⟩ : ∃ r1, (pushL r y).1 = r1 := ⟨_, rfl⟩
    rw [hr1] at hle ⊢
    show (pushL r1 [10]).1 = []
    unfold pushL
    rw [linesL_bytes [10] (r1, []) hle]
    simp only [List.foldl_cons, List.foldl_nil]
    unfold stepL
    rw [if_pos (by decide)]
/-- The session's own limit, and the feed's rest, stay as they are. -/
theorem turn_most (s : Sess) (hw : s.waits = false) (hm : s.most ≤ 9223372036854775807) (x : Bs) : (turnS s x).2.most = s.most ∧ (turnS s x).2.rest = s.rest := ⟨(turn_turned hw hm x).most, (turn_turned hw hm x).rest⟩
theorem fold_most (an : List Int) : ∀ (l : List Bs) (x : Bs × List Mail × Sess), x.2.2.waits = false → x.2.2.most ≤ 9223372036854775807 → (l.foldl (one an) x).2.2.most = x.2.2.most ∧ (l.foldl (one an) x).2.2.rest = x.2.2.rest
  | [], x, _, _ => ⟨rfl, rfl⟩
  | y :: l, x, hw, hm => by
    rw [List.foldl_cons]
    have h1 : (one an x y).2.2.most = x.2.2.most ∧ (one an x y).2.2.rest = x.2.2.rest ∧ (one an x y).2.2.waits = false := by
      unfold one
      split
      · exact ⟨rfl, rfl, hw⟩
      · have t := turn_most x.2.2 hw hm y
        split
        · rename_i q
          refine ⟨?_, ?_, answer_done _ _⟩
          · rw [← t.1]; unfold answerS; rw [if_pos q]; rfl
          · rw [← t.2]; unfold answerS; rw [if_pos q]; rfl
        · rename_i q
          exact ⟨t.1, t.2, by simpa using q⟩
    have := fold_most an l (one an x y) h1.2.2 (by rw [h1.1]; exact hm)
    exact ⟨this.1.trans h1.1, this.2.trans h1.2.1⟩
def heloX : Bs := [72, 69, 76, 79, 32, 120, 13, 10]
def okX : Bs := [50, 53, 48, 32, 79, 75, 13, 10]
/-- What stands behind the text x, drained. -/
theorem quiet_rest (m : Int) (x : Bs) (hx : x = [] ∨ x.getLast? = some 10) (hl : x.length < 3100) :
    ∃ s : Sess, quietF 3100 1 (feedS (newS m) x).2 = s ∧ s.waits = false ∧ (s.over = true ∨ s.kept = []) ∧ s.most = mostL m ∧ s.rest = [] := by
  have hp : (pushL [] x).1 = [] := push_whole x [] (by simp) (by
    rcases hx with rfl | hx
    · exact .inl ⟨rfl, rfl⟩
    · refine .inr ⟨fun e => ?_, hx⟩
      rw [e] at hx; simp at hx)
  have hf : feedS (newS m) x = runF (pushL [] x).2.length (withK (pushL [] x).2 (withR (pushL [] x).1 (newS m))) [] := feed_eq (newS m) x ⟨rfl, .inl rfl⟩ rfl
  obtain ⟨k', h1, h2, h3⟩ := drain_fold (List.replicate 3100 1) (pushL [] x).2 3100 (withR (pushL [] x).1 (newS m)) [] [] rfl (Nat.lt_of_le_of_lt (pushL_len _ _) hl)
  have hq := quiet_drain 1 3100 3100 (feedS (newS m) x).2 (feedS (newS m) x).1 [] (by simp)
  have fm := fold_most (List.replicate 3100 1) (pushL [] x).2 ([], [], withR (pushL [] x).1 (newS m)) rfl (by show mostL m ≤ _; unfold mostL; omega)
  rw [hf] at hq
  rw [h1] at hq
  rw [hf]
  exact ⟨_, hq, h2, h3, fm.1, fm.2.trans hp⟩
theorem hello_feed (s : Sess) (hw : s.waits = false) (ho : s.over = false) (hk : s.kept = []) (hr : s.rest = []) : feedS s heloX = turnS s heloX := by
  have hp : pushL [] heloX = ([], [heloX]) := by decide +kernel
  rw [feed_eq s heloX ⟨hw, .inl hk⟩ hk, hr, hp]
  show runF 1 (withK [heloX] (withR [] s)) [] = _
  have e : ({ withK [heloX] (withR [] s) with kept := [] } : Sess) = s := by
    cases s
    simp only [withK, withR] at hk hr ⊢
    subst hk
    subst hr
    rfl
  unfold runF
  show (if (s.waits || s.over) = true then _ else runF 0 (turnS { withK [heloX] (withR [] s) with kept := [] } heloX).2 ([] ++ (turnS { withK [heloX] (withR [] s) with kept := [] } heloX).1)) = _
  rw [if_neg (by rw [hw, ho]; decide), e]
  rfl
theorem hello_turn (s : Sess) (h : (turnS s heloX).1 = okX) : s.body = none ∧ (turnS s heloX).2 = { s with greeted := true, sender := none, rcp := [] } := by
  cases hb : s.body with
  | some y =>
    exfalso
    have e : turnS s heloX = lineS s y heloX := by unfold turnS; rw [hb]
    rw [e] at h
    unfold lineS at h
    rw [if_pos (show Lib.hasSuffix heloX [10] = false ∨ bareL heloX ≠ [46] from .inr (by decide +kernel))] at h
    exact absurd (show ([] : Bs) = okX from h) (by decide)
  | none =>
    refine ⟨rfl, ?_⟩
    have e : turnS s heloX = commandS s heloX := by unfold turnS; rw [hb]
    rw [e]
    unfold commandS
    rw [if_pos (show Lib.hasSuffix heloX [10] = true by decide +kernel), show greatL (wordL (bareL heloX)).1 = [72, 69, 76, 79] by decide +kernel, show (wordL (bareL heloX)).2 = [120] by decide +kernel]
    unfold doS
    rw [if_neg (by decide), if_pos rfl]
    unfold heloS helloS
    rw [if_neg (by decide)]
    simp [resetS, hb]
theorem hello_new (m : Int) : (feedS (newS m) heloX).1 = okX ∧ (feedS (newS m) heloX).2 = { newS m with greeted := true, sender := none, rcp := [] } := by
  have hf := hello_feed (newS m) rfl rfl rfl rfl
  rw [hf]
  have e : turnS (newS m) heloX = commandS (newS m) heloX := rfl
  rw [e]
  unfold commandS
  rw [if_pos (show Lib.hasSuffix heloX [10] = true by decide +kernel), show greatL (wordL (bareL heloX)).1 = [72, 69, 76, 79] by decide +kernel, show (wordL (bareL heloX)).2 = [120] by decide +kernel]
  unfold doS
  rw [if_neg (by decide), if_pos rfl]
  unfold heloS helloS
  rw [if_neg (by decide)]
  refine ⟨?_, rfl⟩
  show [] ++ replyL 250 = okX
  decide +kernel
def drainedL (s : Sess) (chunk : Bs) (an : List Int) : Bs × List Mail × Sess := drainF 3100 (feedS s chunk).2 (feedS s chunk).1 [] an
/-- The plain law of SmtpHello. -/
theorem hello_plain (m : Int) (x y : Bs) (an : List Int) (hx : x = [] ∨ x.getLast? = some 10) (hl : x.length ≤ 3000) (h : (feedS (quietF 3100 1 (feedS (newS m) x).2) heloX).1 = okX) :
    seen (drainedL (feedS (newS m) heloX).2 y an) = seen (drainedL (feedS (quietF 3100 1 (feedS (newS m) x).2) heloX).2 y an) := by
  obtain ⟨s, hs, hw, ho, hm, hr⟩ := quiet_rest m x hx (by omega)
  rw [hs] at h ⊢
  have hov : s.over = false := by
    cases hq : s.over with
    | false => rfl
    | true =>
      exfalso
      have : feedS s heloX = ([], pushedS s heloX) := runF_stop _ _ _ (.inr hq)
      rw [this] at h
      exact absurd (show ([] : Bs) = okX from h) (by decide)
  have hk : s.kept = [] := ho.resolve_left (by rw [hov]; simp)
  rw [hello_feed s hw hov hk hr] at h ⊢
  obtain ⟨hb, e⟩ := hello_turn s h
  rw [e, (hello_new m).2]
  have ha : Alike ({ s with greeted := true, sender := none, rcp := [] } : Sess) ({ newS m with greeted := true, sender := none, rcp := [] } : Sess) := by
    refine .inr ⟨hb, false, ?_⟩
    cases s
    simp only at hb hw hov hk hr hm
    subst hb hw hov hk hr hm
    rfl
  obtain ⟨f1, f2⟩ := feed_alike ha y
  obtain ⟨d1, d2, d3⟩ := drain_alike an 3100 (feedS ({ s with greeted := true, sender := none, rcp := [] } : Sess) y).1 [] f2
  unfold drainedL seen
  rw [f1, d1, d2, d3.f.2.2.1]
end Go.Proofs.YtapanjfheddfnaaGreatDoor
