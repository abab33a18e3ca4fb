/- A session over chunks, line for line. No program here. -/
import Derived.Test.YtapanjfheddfnaaGreatDoorWhole
import Derived.Test.YtapanjfheddfnaaGreatDoorChunks
namespace Go.Proofs.YtapanjfheddfnaaGreatDoor

/-- The session, other lines kept. -/
def withK (ks : List Bs) (s : Sess) : Sess := { s with kept := ks }
theorem turn_withK (ks : List Bs) (s : Sess) (x : Bs) : turnS (withK ks s) x = ((turnS s x).1, withK ks (turnS s x).2) := by
  have hh : ∀ rest more : Bs, helloS (withK ks s) rest more = ((helloS s rest more).1, withK ks (helloS s rest more).2) := by
    intro rest more; unfold helloS; split <;> rfl
  have hb : ∀ (f : Sess → Bs × Sess) (rest : Bs), f (withK ks s) = ((f s).1, withK ks (f s).2) → bareS f (withK ks s) rest = ((bareS f s rest).1, withK ks (bareS f s rest).2) := by
    intro f rest hf; unfold bareS; split
    · exact hf
    · rfl
  have hm : ∀ rest : Bs, mailS (withK ks s) rest = ((mailS s rest).1, withK ks (mailS s rest).2) := by
    intro rest
    unfold mailS
    by_cases hc : s.greeted = false ∨ s.sender ≠ none
    · rw [if_pos hc, if_pos (show (withK ks s).greeted = false ∨ (withK ks s).sender ≠ none from hc)]
    · rw [if_neg hc, if_neg (show ¬ ((withK ks s).greeted = false ∨ (withK ks s).sender ≠ none) from hc)]
      cases pathL rest [70, 82, 79, 77, 58] with
      | none => rfl
      | some ar =>
        obtain ⟨a, r⟩ := ar
        simp only [mailP]
        split
        · rfl
        · cases optL r with
          | none => rfl
          | some z =>
            simp only [withK]
            by_cases hz : (s.most : Int) < z
            · simp only [if_pos hz]; exact if_pos hz
            · simp only [if_neg hz]; exact if_neg hz
  have hr : ∀ rest : Bs, rcptS (withK ks s) rest = ((rcptS s rest).1, withK ks (rcptS s rest).2) := by
    intro rest
    unfold rcptS
    by_cases hc : s.sender = none
    · rw [if_pos hc, if_pos (show (withK ks s).sender = none from hc)]
    · rw [if_neg hc, if_neg (show ¬ (withK ks s).sender = none from hc)]
      cases pathL rest [84, 79, 58] with
      | none => rfl
      | some ar =>
        obtain ⟨a, r⟩ := ar
        simp only [rcptP, withK]
        by_cases h1 : r ≠ [] ∨ mayL a = false
        · simp only [if_pos h1]
        · simp only [if_neg h1]
          by_cases h2 : s.rcp.contains a = true
          · simp only [if_pos h2]; exact if_pos h2
          · simp only [if_neg h2]; refine (if_neg h2).trans ?_
            by_cases h3 : 16 ≤ s.rcp.length
            · simp only [if_pos h3]; exact if_pos h3
            · simp only [if_neg h3]; exact if_neg h3
  unfold turnS
  cases hbd : s.body with
  | some y =>
    have : (withK ks s).body = some y := hbd
    rw [this]
    simp only [lineS, withK]
    by_cases h1 : Lib.hasSuffix x [10] = false ∨ bareL x ≠ [46]
    · simp only [if_pos h1]
    · simp only [if_neg h1]
      by_cases h2 : s.long = true
      · simp only [if_pos h2]; exact if_pos h2
      · simp only [if_neg h2]; refine (if_neg h2).trans ?_
        by_cases h3 : s.most < y.length
        · simp only [if_pos h3]; exact if_pos h3
        · simp only [if_neg h3]; exact if_neg h3
  | none =>
    have : (withK ks s).body = none := hbd
    rw [this]
    simp only
    unfold commandS
    split
    · unfold doS
      repeat' split
      · exact hh _ _
      · exact hh _ _
      · exact hm _
      · exact hr _
      · refine hb _ _ ?_
        simp only [dataS, withK]
        by_cases h1 : s.rcp = []
        · simp only [if_pos h1]; exact if_pos h1
        · simp only [if_neg h1]; exact if_neg h1
      · exact hb _ _ rfl
      · exact hb _ _ rfl
      · rfl
      · rfl
      · rfl
    · rfl

theorem answer_withK (ks : List Bs) (s : Sess) (e : Int) : answerS (withK ks s) e = ((answerS s e).1, withK ks (answerS s e).2) := by
  unfold answerS
  by_cases h : s.waits = true
  · rw [if_pos h, if_pos (show (withK ks s).waits = true from h)]; rfl
  · rw [if_neg h, if_neg (show ¬ (withK ks s).waits = true from h)]
theorem mail_withK (ks : List Bs) (s : Sess) : mailE (withK ks s) = mailE s := rfl
theorem answer_done (s : Sess) (e : Int) : (answerS s e).2.waits = false := by
  unfold answerS
  by_cases h : s.waits = true
  · rw [if_pos h]; rfl
  · rw [if_neg h]; simpa using h
theorem runF_out (n : Nat) : ∀ (s : Sess) (out : Bs), runF n s out = (out ++ (runF n s []).1, (runF n s []).2) := by
  induction n with
  | zero => intro s out; simp [runF]
  | succ n ih =>
    intro s out
    unfold runF
    cases s.kept with
    | nil => simp
    | cons x ks =>
      simp only
      split
      · simp
      · rw [ih _ (out ++ _), ih _ ([] ++ _)]
        simp
/-- One line: nothing once the session is over; its reply, and, where a message waits then, the message and the reply to its answer. -/
def one (an : List Int) (x : Bs × List Mail × Sess) (l : Bs) : Bs × List Mail × Sess :=
  if x.2.2.over then x else
  if (turnS x.2.2 l).2.waits then (x.1 ++ (turnS x.2.2 l).1 ++ (answerS (turnS x.2.2 l).2 (an.getD x.2.1.length 0)).1, x.2.1 ++ [mailE (turnS x.2.2 l).2], (answerS (turnS x.2.2 l).2 (an.getD x.2.1.length 0)).2)
  else (x.1 ++ (turnS x.2.2 l).1, x.2.1, (turnS x.2.2 l).2)
theorem one_over (an : List Int) (l : List Bs) (x : Bs × List Mail × Sess) (h : x.2.2.over = true) : l.foldl (one an) x = x := by
  induction l with
  | nil => rfl
  | cons y l ih =>
    have : one an x y = x := by unfold one; rw [if_pos h]
    rw [List.foldl_cons, this, ih]
theorem feed_nil (s : Sess) : feedS s [] = runF s.kept.length s [] := by
  have : pushedS s [] = s := by
    unfold pushedS pushL
    rw [linesL_nil]
    simp
  unfold feedS
  rw [this]
theorem runF_stop (n : Nat) (s : Sess) (out : Bs) (h : s.waits = true ∨ s.over = true) : runF n s out = (out, s) := by
  cases n with
  | zero => rfl
  | succ n =>
    unfold runF
    cases s.kept with
    | nil => rfl
    | cons x ks =>
      simp only
      rw [if_pos (by rcases h with h | h <;> simp [h])]
theorem drain_fold (an : List Int) : ∀ (ks : List Bs) (n : Nat) (s : Sess) (out : Bs) (ms : List Mail), s.waits = false → ks.length < n →
    ∃ k', drainF n (runF ks.length (withK ks s) out).2 (runF ks.length (withK ks s) out).1 ms an = ((ks.foldl (one an) (out, ms, s)).1, (ks.foldl (one an) (out, ms, s)).2.1, withK k' (ks.foldl (one an) (out, ms, s)).2.2) ∧ (ks.foldl (one an) (out, ms, s)).2.2.waits = false ∧ ((ks.foldl (one an) (out, ms, s)).2.2.over = true ∨ k' = []) := by
  intro ks
  induction ks with
  | nil =>
    intro n s out ms hw hn
    refine ⟨[], ?_, hw, .inr rfl⟩
    obtain ⟨m, rfl⟩ : ∃ m, n = m + 1 := ⟨n - 1, by simp at hn; omega⟩
    show drainF (m + 1) (withK [] s) out ms an = _
    unfold drainF
    rw [if_neg (by show ¬ s.waits = true; rw [hw]; simp)]
    rfl
  | cons x t ih =>
    intro n s out ms hw hn
    obtain ⟨m, rfl⟩ : ∃ m, n = m + 1 := ⟨n - 1, by omega⟩
    simp only [List.length_cons] at hn
    by_cases ho : s.over = true
    · have hr : runF (x :: t).length (withK (x :: t) s) out = (out, withK (x :: t) s) := runF_stop _ _ _ (.inr ho)
      rw [hr, one_over an _ _ ho]
      refine ⟨x :: t, ?_, hw, .inl ho⟩
      unfold drainF
      rw [if_neg (by show ¬ s.waits = true; rw [hw]; simp)]
    · have hr : runF (x :: t).length (withK (x :: t) s) out = runF t.length (withK t (turnS s x).2) (out ++ (turnS s x).1) := by
        show runF (t.length + 1) (withK (x :: t) s) out = _
        conv => lhs; unfold runF
        show (if s.waits || s.over then _ else runF t.length (turnS (withK t s) x).2 (out ++ (turnS (withK t s) x).1)) = _
        rw [if_neg (by rw [hw]; simpa using ho), turn_withK]
      rw [hr, List.foldl_cons]
      by_cases hq : (turnS s x).2.waits = true
      · have hone : one an (out, ms, s) x = (out ++ (turnS s x).1 ++ (answerS (turnS s x).2 (an.getD ms.length 0)).1, ms ++ [mailE (turnS s x).2], (answerS (turnS s x).2 (an.getD ms.length 0)).2) := by
          unfold one; rw [if_neg ho, if_pos hq]
        rw [hone, runF_stop t.length (withK t (turnS s x).2) _ (.inl hq)]
        unfold drainF
        rw [if_pos (show (withK t (turnS s x).2).waits = true from hq), answer_withK, mail_withK, feed_nil]
        have := ih m (answerS (turnS s x).2 (an.getD ms.length 0)).2 (out ++ (turnS s x).1 ++ (answerS (turnS s x).2 (an.getD ms.length 0)).1) (ms ++ [mailE (turnS s x).2]) (answer_done _ _) (by omega)
        rw [runF_out] at this
        exact this
      · have hone : one an (out, ms, s) x = (out ++ (turnS s x).1, ms, (turnS s x).2) := by
          unfold one; rw [if_neg ho, if_neg hq]
        rw [hone]
        exact ih (m + 1) _ _ _ (by simpa using hq) (by omega)
/-- The session, another rest in its feed. -/
def withR (r : Bs) (s : Sess) : Sess := { s with rest := r }
theorem turn_withR (r0 : Bs) (s : Sess) (x : Bs) : turnS (withR r0 s) x = ((turnS s x).1, withR r0 (turnS s x).2) := by
  have hh : ∀ rest more : Bs, helloS (withR r0 s) rest more = ((helloS s rest more).1, withR r0 (helloS s rest more).2) := by
    intro rest more; unfold helloS; split <;> rfl
  have hb : ∀ (f : Sess → Bs × Sess) (rest : Bs), f (withR r0 s) = ((f s).1, withR r0 (f s).2) → bareS f (withR r0 s) rest = ((bareS f s rest).1, withR r0 (bareS f s rest).2) := by
    intro f rest hf; unfold bareS; split
    · exact hf
    · rfl
  have hm : ∀ rest : Bs, mailS (withR r0 s) rest = ((mailS s rest).1, withR r0 (mailS s rest).2) := by
    intro rest
    unfold mailS
    by_cases hc : s.greeted = false ∨ s.sender ≠ none
    · rw [if_pos hc, if_pos (show (withR r0 s).greeted = false ∨ (withR r0 s).sender ≠ none from hc)]
    · rw [if_neg hc, if_neg (show ¬ ((withR r0 s).greeted = false ∨ (withR r0 s).sender ≠ none) from hc)]
      cases pathL rest [70, 82, 79, 77, 58] with
      | none => rfl
      | some ar =>
        obtain ⟨a, r⟩ := ar
        simp only [mailP]
        split
        · rfl
        · cases optL r with
          | none => rfl
          | some z =>
            simp only [withR]
            by_cases hz : (s.most : Int) < z
            · simp only [if_pos hz]; exact if_pos hz
            · simp only [if_neg hz]; exact if_neg hz
  have hr : ∀ rest : Bs, rcptS (withR r0 s) rest = ((rcptS s rest).1, withR r0 (rcptS s rest).2) := by
    intro rest
    unfold rcptS
    by_cases hc : s.sender = none
    · rw [if_pos hc, if_pos (show (withR r0 s).sender = none from hc)]
    · rw [if_neg hc, if_neg (show ¬ (withR r0 s).sender = none from hc)]
      cases pathL rest [84, 79, 58] with
      | none => rfl
      | some ar =>
        obtain ⟨a, r⟩ := ar
        simp only [rcptP, withR]
        by_cases h1 : r ≠ [] ∨ mayL a = false
        · simp only [if_pos h1]
        · simp only [if_neg h1]
          by_cases h2 : s.rcp.contains a = true
          · simp only [if_pos h2]; exact if_pos h2
          · simp only [if_neg h2]; refine (if_neg h2).trans ?_
            by_cases h3 : 16 ≤ s.rcp.length
            · simp only [if_pos h3]; exact if_pos h3
            · simp only [if_neg h3]; exact if_neg h3
  unfold turnS
  cases hbd : s.body with
  | some y =>
    have : (withR r0 s).body = some y := hbd
    rw [this]
    simp only [lineS, withR]
    by_cases h1 : Lib.hasSuffix x [10] = false ∨ bareL x ≠ [46]
    · simp only [if_pos h1]
    · simp only [if_neg h1]
      by_cases h2 : s.long = true
      · simp only [if_pos h2]; exact if_pos h2
      · simp only [if_neg h2]; refine (if_neg h2).trans ?_
        by_cases h3 : s.most < y.length
        · simp only [if_pos h3]; exact if_pos h3
        · simp only [if_neg h3]; exact if_neg h3
  | none =>
    have : (withR r0 s).body = none := hbd
    rw [this]
    simp only
    unfold commandS
    split
    · unfold doS
      repeat' split
      · exact hh _ _
      · exact hh _ _
      · exact hm _
      · exact hr _
      · refine hb _ _ ?_
        simp only [dataS, withR]
        by_cases h1 : s.rcp = []
        · simp only [if_pos h1]; exact if_pos h1
        · simp only [if_neg h1]; exact if_neg h1
      · exact hb _ _ rfl
      · exact hb _ _ rfl
      · rfl
      · rfl
      · rfl
    · rfl

theorem answer_withR (r : Bs) (s : Sess) (e : Int) : answerS (withR r s) e = ((answerS s e).1, withR r (answerS s e).2) := by
  unfold answerS
  by_cases h : s.waits = true
  · rw [if_pos h, if_pos (show (withR r s).waits = true from h)]; rfl
  · rw [if_neg h, if_neg (show ¬ (withR r s).waits = true from h)]
/-- One line's step looks neither at the kept lines nor at the rest. -/
theorem one_with (an : List Int) (ks : List Bs) (r : Bs) (o : Bs) (ms : List Mail) (s : Sess) (l : Bs) : one an (o, ms, withK ks (withR r s)) l = ((one an (o, ms, s) l).1, (one an (o, ms, s) l).2.1, withK ks (withR r (one an (o, ms, s) l).2.2)) := by
  have ht : turnS (withK ks (withR r s)) l = ((turnS s l).1, withK ks (withR r (turnS s l).2)) := by rw [turn_withK, turn_withR]
  unfold one
  by_cases ho : s.over = true
  · rw [if_pos ho, if_pos (show (withK ks (withR r s)).over = true from ho)]
  · rw [if_neg ho, if_neg (show ¬ (withK ks (withR r s)).over = true from ho)]
    simp only [ht]
    by_cases hw : (turnS s l).2.waits = true
    · rw [if_pos hw, if_pos (show (withK ks (withR r (turnS s l).2)).waits = true from hw), answer_withK, answer_withR]; rfl
    · rw [if_neg hw, if_neg (show ¬ (withK ks (withR r (turnS s l).2)).waits = true from hw)]
theorem fold_with (an : List Int) (ks : List Bs) (r : Bs) (l : List Bs) : ∀ (o : Bs) (ms : List Mail) (s : Sess), l.foldl (one an) (o, ms, withK ks (withR r s)) = ((l.foldl (one an) (o, ms, s)).1, (l.foldl (one an) (o, ms, s)).2.1, withK ks (withR r (l.foldl (one an) (o, ms, s)).2.2)) := by
  induction l with
  | nil => intro o ms s; rfl
  | cons x l ih =>
    intro o ms s
    rw [List.foldl_cons, List.foldl_cons, one_with, ih]

/-- Where a session stands between two chunks. -/
def Rest (s : Sess) : Prop := s.waits = false ∧ (s.kept = [] ∨ s.over = true)
theorem feed_eq (s : Sess) (c : Bs) (hr : Rest s) (hk : s.kept = []) : feedS s c = runF (pushL s.rest c).2.length (withK (pushL s.rest c).2 (withR (pushL s.rest c).1 s)) [] := by
  unfold feedS pushedS
  rw [hk]
  rfl
theorem drain_stop (n : Nat) (s : Sess) (o : Bs) (ms : List Mail) (an : List Int) (h : s.waits = false) : drainF n s o ms an = (o, ms, s) := by
  cases n with
  | zero => rfl
  | succ n => unfold drainF; rw [if_neg (by rw [h]; simp)]
/-- What the session has said and taken, and whether it is over. -/
def seen (x : Bs × List Mail × Sess) : Bs × List Mail × Bool := (x.1, x.2.1, x.2.2.over)
theorem over_seen (an : List Int) : ∀ (cs : List Bs) (s : Sess) (o : Bs) (ms : List Mail), Rest s → s.over = true → (overF cs s o ms an).1 = o ∧ (overF cs s o ms an).2.1 = ms ∧ (overF cs s o ms an).2.2.over = true
  | [], s, o, ms, _, ho => ⟨rfl, rfl, ho⟩
  | c :: cs, s, o, ms, hr, ho => by
    have hf : feedS s c = ([], pushedS s c) := runF_stop _ _ _ (.inr ho)
    unfold overF
    rw [hf]
    simp only [List.append_nil]
    rw [drain_stop 7000 (pushedS s c) o ms an hr.1]
    exact over_seen an cs (pushedS s c) o ms ⟨hr.1, .inr ho⟩ ho
theorem pushL_len (r c : Bs) : (pushL r c).2.length ≤ c.length := by
  have e1 := foldL_len (linesL c) (r, [])
  have e2 := linesL_len c
  unfold pushL
  simp only [List.length_nil] at e1
  omega
theorem pushL_rest (r c : Bs) (h : r.length ≤ 1000) : (pushL r c).1.length ≤ 1000 := foldL_le _ _ h
theorem over_fold (an : List Int) : ∀ (cs : List Bs) (s : Sess) (o : Bs) (ms : List Mail), s.waits = false → s.kept = [] → s.rest.length ≤ 1000 → (∀ c ∈ cs, c.length < 7000) →
    seen (overF cs s o ms an) = seen ((pushL s.rest cs.flatten).2.foldl (one an) (o, ms, s))
  | [], s, o, ms, _, _, _, _ => by
    simp only [List.flatten_nil]
    have : (pushL s.rest []).2 = [] := by unfold pushL; rw [linesL_nil]; rfl
    rw [this]; rfl
  | c :: cs, s, o, ms, hw, hk, hr, hc => by
    have hf := feed_eq s c ⟨hw, .inl hk⟩ hk
    have hlen : (pushL s.rest c).2.length < 7000 := Nat.lt_of_le_of_lt (pushL_len _ _) (hc c (by simp))
    obtain ⟨k', h1, h2, h3⟩ := drain_fold an (pushL s.rest c).2 7000 (withR (pushL s.rest c).1 s) o ms hw hlen
    have hfold := fold_with an [] (pushL s.rest c).1 (pushL s.rest c).2 o ms s
    have hs0 : withK [] (withR (pushL s.rest c).1 s) = withR (pushL s.rest c).1 s := by unfold withK withR; rw [hk]
    rw [hs0] at hfold
    rw [hfold] at h1 h2 h3
    obtain ⟨X, hX⟩ : ∃ X, (pushL s.rest c).2.foldl (one an) (o, ms, s) = X := ⟨_, rfl⟩
    rw [hX] at h1 h2 h3
    rw [runF_out] at h1
    have hov : overF (c :: cs) s o ms an = overF cs (withK k' (withK [] (withR (pushL s.rest c).1 X.2.2))) X.1 X.2.1 an := by
      conv => lhs; unfold overF
      rw [hf]
      simp only [h1]
    rw [hov]
    have hpa : (pushL s.rest (c :: cs).flatten).2 = (pushL s.rest c).2 ++ (pushL (pushL s.rest c).1 cs.flatten).2 := by
      rw [List.flatten_cons, pushL_append s.rest c cs.flatten hr]
    rw [hpa, List.foldl_append, hX]
    have hw2 : X.2.2.waits = false := h2
    by_cases hxo : X.2.2.over = true
    · obtain ⟨q1, q2, q3⟩ := over_seen an cs (withK k' (withK [] (withR (pushL s.rest c).1 X.2.2))) X.1 X.2.1 ⟨hw2, .inr hxo⟩ hxo
      rw [one_over an _ X hxo]
      unfold seen
      rw [q1, q2, q3, hxo]
    · have hk' : k' = [] := h3.resolve_left hxo
      subst hk'
      have := over_fold an cs (withK [] (withK [] (withR (pushL s.rest c).1 X.2.2))) X.1 X.2.1 hw2 rfl (pushL_rest _ _ hr) (fun d hd => hc d (by simp [hd]))
      rw [this]
      have hfw := fold_with an [] (pushL s.rest c).1 (pushL (pushL s.rest c).1 cs.flatten).2 X.1 X.2.1 X.2.2
      show seen ((pushL (pushL s.rest c).1 cs.flatten).2.foldl (one an) (X.1, X.2.1, withK [] (withR (pushL s.rest c).1 X.2.2))) = _
      rw [hfw]
      rfl
/-- The plain law of SmtpPieces: another division of the input at one offset makes no difference. -/
theorem pieces_plain (m : Int) (l : List Bs) (k : Nat) (an : List Int) (h : l.flatten.length < 7000) : seen (wholeL m l an) = seen (wholeL m [l.flatten.take k, [], l.flatten.drop k] an) := by
  have hc : ∀ c ∈ l, c.length < 7000 := by
    intro c hm
    obtain ⟨a, b, rfl⟩ := List.append_of_mem hm
    simp only [List.flatten_append, List.flatten_cons, List.length_append] at h
    omega
  unfold wholeL
  rw [over_fold an l (newS m) [] [] rfl rfl (by simp [newS]) hc, over_fold an [l.flatten.take k, [], l.flatten.drop k] (newS m) [] [] rfl rfl (by simp [newS]) (fun c hm => by
    simp only [List.mem_cons, List.not_mem_nil, or_false] at hm
    rcases hm with rfl | rfl | rfl
    · rw [List.length_take]; omega
    · simp
    · rw [List.length_drop]; omega)]
  congr 3
  simp
end Go.Proofs.YtapanjfheddfnaaGreatDoor
