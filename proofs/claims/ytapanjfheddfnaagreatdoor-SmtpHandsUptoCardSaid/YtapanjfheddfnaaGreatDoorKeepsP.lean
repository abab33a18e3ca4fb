/- SmtpKeeps: what each reply and each message is. No program here. -/
import Derived.Test.YtapanjfheddfnaaGreatDoorPieces
namespace Go.Proofs.YtapanjfheddfnaaGreatDoor

/-! ### The replies -/
/-- One line: a code that the parser takes, a blank or a dash, CR LF at its end and no LF before. -/
def lineB (r : Bs) : Bool := decide (7 ≤ r.length) && (r.drop (r.length - 2) == [13, 10]) && (r[3]? == some 32 || r[3]? == some 45) && (parseL (r.take 3) 221 554).2 && r.dropLast.all (· != 10)
/-- And its code is not 221. -/
def plainB (r : Bs) : Bool := lineB r && (parseL (r.take 3) 221 554).1 != 221
def bye : Bs := replyL 221
theorem bye_line : (lineB bye && (parseL (bye.take 3) 221 554).1 == 221) = true := by decide +kernel
theorem reply_plain (c : Int) (h : c ∈ ([250, 252, 354, 451, 452, 500, 501, 503, 552, 554] : List Int)) : plainB (replyL c) = true := by
  revert c
  decide +kernel
/-- What a turn says: plain lines, and, where it ends the session, the farewell. -/
def Says (o : Bs) (over : Bool) : Prop := ∃ rs : List Bs, (∀ r ∈ rs, plainB r = true) ∧ o = rs.flatten ++ (if over then bye else [])
theorem Says.none : Says [] false := ⟨[], by simp, rfl⟩
theorem Says.reply (c : Int) (h : c ∈ ([250, 252, 354, 451, 452, 500, 501, 503, 552, 554] : List Int)) : Says (replyL c) false := ⟨[replyL c], by simp [reply_plain c h], by simp⟩
theorem Says.app {a b : Bs} {q : Bool} (h : Says a false) (k : Says b q) : Says (a ++ b) q := by
  obtain ⟨r1, h1, e1⟩ := h
  obtain ⟨r2, h2, e2⟩ := k
  refine ⟨r1 ++ r2, fun r hr => (List.mem_append.1 hr).elim (h1 r) (h2 r), ?_⟩
  rw [e1, e2]
  simp
theorem split_unique : ∀ (d c r q : Bs), (∀ x ∈ d, x ≠ 10) → (∀ x ∈ c, x ≠ 10) → d ++ 10 :: r = c ++ 10 :: q → d = c ∧ r = q
  | [], [], r, q, _, _, h => by simp at h; exact ⟨rfl, h⟩
  | [], y :: c, r, q, _, hc, h => by simp at h; exact absurd h.1.symm (hc y (by simp))
  | x :: d, [], r, q, hd, _, h => by simp at h; exact absurd h.1 (hd x (by simp))
  | x :: d, y :: c, r, q, hd, hc, h => by
    simp only [List.cons_append, List.cons.injEq] at h
    obtain ⟨e1, e2⟩ := split_unique d c r q (fun z hz => hd z (by simp [hz])) (fun z hz => hc z (by simp [hz])) h.2
    exact ⟨by rw [h.1, e1], e2⟩
theorem linesL_cons (d r : Bs) (hd : ∀ x ∈ d, x ≠ 10) : linesL (d ++ 10 :: r) = (d ++ [10]) :: linesL r := by
  have hne : d ++ 10 :: r ≠ [] := by simp
  cases hc : (Lib.cut (d ++ 10 :: r) [10]).2.2 with
  | false => exact absurd rfl (cut_not _ hc 10 (by simp))
  | true =>
    obtain ⟨e, hn⟩ := cut_at _ hc
    obtain ⟨e1, e2⟩ := split_unique d _ r _ hd hn e
    rw [linesL_ends _ hne hc, ← e1, ← e2]
theorem line_parts (r : Bs) (h : lineB r = true) : ∃ d, r = d ++ [10] ∧ ∀ x ∈ d, x ≠ 10 := by
  unfold lineB at h
  simp only [Bool.and_eq_true, decide_eq_true_eq, beq_iff_eq, List.all_eq_true, bne_iff_ne] at h
  obtain ⟨⟨⟨⟨h1, h2⟩, h3⟩, h4⟩, h5⟩ := h
  have e : r = (r.take (r.length - 2) ++ [13]) ++ [10] := by
    have : r.take (r.length - 2) ++ r.drop (r.length - 2) = r := List.take_append_drop _ _
    rw [h2] at this
    rw [List.append_assoc]
    exact this.symm
  refine ⟨r.take (r.length - 2) ++ [13], e, ?_⟩
  have hd : r.dropLast = r.take (r.length - 2) ++ [13] := by
    conv => lhs; rw [e]
    exact List.dropLast_concat
  rw [← hd]
  exact h5
theorem linesL_flatten : ∀ rs : List Bs, (∀ r ∈ rs, lineB r = true) → linesL rs.flatten = rs
  | [], _ => linesL_nil
  | r :: rs, h => by
    obtain ⟨d, e, hd⟩ := line_parts r (h r (by simp))
    have ih := linesL_flatten rs (fun q hq => h q (by simp [hq]))
    rw [List.flatten_cons, e, List.append_assoc, List.singleton_append, linesL_cons d _ hd, ih]

/-! ### The session -/
structure KK (m : Int) (s : Sess) : Prop where
  most : s.most = mostL m
  few : s.rcp.length ≤ 16
  nodup : s.rcp.Nodup
  len : ∀ a ∈ s.rcp, 3 ≤ a.length ∧ a.length ≤ 254
  body : s.body ≠ none → s.rcp ≠ []
  waits : s.waits = true → ∃ y, s.body = some y ∧ y.length ≤ mostL m
def MailOk (m : Int) (x : Mail) : Prop := 1 ≤ x.2.1.length ∧ x.2.1.length ≤ 16 ∧ x.2.1.Nodup ∧ (∀ a ∈ x.2.1, 3 ≤ a.length ∧ a.length ≤ 254) ∧ x.2.2.length ≤ mostL m
def Turns (m : Int) (f : Bs × Sess) : Prop := Says f.1 f.2.over ∧ KK m f.2 ∧ (f.2.waits = true → f.2.over = false)
theorem dec_digit (u : Nat) : ∀ c ∈ Lib.decDigits u, 48 ≤ c.toNat := by
  induction u using Nat.strongRecOn with
  | _ u ih =>
    intro c hc
    rw [Lib.decDigits] at hc
    by_cases h : u < 10
    · rw [dif_pos h] at hc
      simp only [List.mem_cons, List.not_mem_nil, or_false] at hc
      subst hc
      simp
      omega
    · rw [dif_neg h] at hc
      rcases List.mem_append.1 hc with q | q
      · exact ih (u / 10) (by omega) c q
      · simp only [List.mem_cons, List.not_mem_nil, or_false] at q
        subst q
        simp
        omega
theorem ehlo_says (n : Nat) : Says (ehloT n) false := by
  refine ⟨[[50, 53, 48, 45, 112, 111, 117, 99, 104, 13, 10], [50, 53, 48, 45, 80, 73, 80, 69, 76, 73, 78, 73, 78, 71, 13, 10], [50, 53, 48, 45, 83, 73, 90, 69, 32] ++ Lib.itoa n ++ [13, 10]], ?_, by simp [ehloT]⟩
  intro r hr
  simp only [List.mem_cons, List.not_mem_nil, or_false] at hr
  rcases hr with rfl | rfl | rfl
  · decide +kernel
  · decide +kernel
  · obtain ⟨d, hd⟩ : ∃ d, Lib.itoa (n : Int) = d := ⟨_, rfl⟩
    have h10 : ∀ c ∈ d, c ≠ 10 := by
      rw [← hd]
      intro c hc e
      subst e
      unfold Lib.itoa at hc
      rw [if_neg (by omega)] at hc
      exact absurd (dec_digit _ _ hc) (by decide)
    rw [hd]
    unfold plainB lineB
    have e3 : ([50, 53, 48, 45, 83, 73, 90, 69, 32] ++ d ++ [13, 10] : Bs).take 3 = [50, 53, 48] := rfl
    have e4 : ([50, 53, 48, 45, 83, 73, 90, 69, 32] ++ d ++ [13, 10] : Bs)[3]? = some 45 := rfl
    have el : ([50, 53, 48, 45, 83, 73, 90, 69, 32] ++ d ++ [13, 10] : Bs).length = d.length + 11 := by simp
    have e5 : ([50, 53, 48, 45, 83, 73, 90, 69, 32] ++ d ++ [13, 10] : Bs).drop (([50, 53, 48, 45, 83, 73, 90, 69, 32] ++ d ++ [13, 10] : Bs).length - 2) = [13, 10] := by
      rw [el]
      refine List.drop_left' ?_
      simp
    have e6 : ([50, 53, 48, 45, 83, 73, 90, 69, 32] ++ d ++ [13, 10] : Bs).dropLast = [50, 53, 48, 45, 83, 73, 90, 69, 32] ++ d ++ [13] := by
      rw [show ([50, 53, 48, 45, 83, 73, 90, 69, 32] ++ d ++ [13, 10] : Bs) = ([50, 53, 48, 45, 83, 73, 90, 69, 32] ++ d ++ [13]) ++ [10] by simp]
      exact List.dropLast_concat
    have e7 : ([50, 53, 48, 45, 83, 73, 90, 69, 32] ++ d ++ [13] : Bs).all (· != 10) = true := by
      rw [List.all_append, List.all_append]
      have : d.all (· != 10) = true := List.all_eq_true.2 fun c hc => by simpa using h10 c hc
      rw [this]
      decide
    rw [e5, e3, e4, e6, e7]
    have e8 : decide (7 ≤ ([50, 53, 48, 45, 83, 73, 90, 69, 32] ++ d ++ [13, 10] : Bs).length) = true := by rw [el]; simp
    rw [e8]
    decide +kernel
theorem turn_keeps {m : Int} {s : Sess} (h : KK m s) (hw : s.waits = false) (ho : s.over = false) (x : Bs) : Turns m (turnS s x) := by
  have key : ∀ (c : Int) (s' : Sess), c ∈ ([250, 252, 354, 451, 452, 500, 501, 503, 552, 554] : List Int) → s'.over = false → KK m s' → Turns m (replyL c, s') := fun c s' hc h1 h2 =>
    ⟨by show Says (replyL c) s'.over; rw [h1]; exact Says.reply c hc, h2, fun _ => h1⟩
  have hempty : ∀ {s' : Sess}, s'.most = mostL m → s'.rcp = [] → s'.body = none → s'.waits = false → KK m s' := fun e1 e2 e3 e4 =>
    ⟨e1, by rw [e2]; simp, by rw [e2]; simp, by rw [e2]; simp, fun q => absurd e3 q, fun q => by rw [e4] at q; cases q⟩
  unfold turnS
  cases hb : s.body with
  | some y =>
    simp only
    unfold lineS
    split
    · exact ⟨by show Says [] s.over; rw [ho]; exact Says.none, ⟨h.most, h.few, h.nodup, h.len, fun _ => h.body (by rw [hb]; simp), fun q => by rw [show s.waits = true from q] at hw; cases hw⟩, fun _ => ho⟩
    · split
      · exact key 500 _ (by decide) ho (hempty h.most rfl rfl hw)
      · split
        · exact key 552 _ (by decide) ho (hempty h.most rfl rfl hw)
        · rename_i hlen
          exact ⟨by show Says [] s.over; rw [ho]; exact Says.none, ⟨h.most, h.few, h.nodup, h.len, h.body, fun _ => ⟨y, hb, by have := h.most; omega⟩⟩, fun _ => ho⟩
  | none =>
    simp only
    have hh : ∀ (more rest : Bs), Says more false → Turns m (helloS s rest more) := by
      intro more rest hm
      unfold helloS
      split
      · exact key 501 _ (by decide) ho h
      · exact ⟨by show Says (more ++ replyL 250) s.over; rw [ho]; exact hm.app (Says.reply 250 (by decide)), hempty h.most rfl hb hw, fun _ => ho⟩
    have hm : ∀ rest : Bs, Turns m (mailS s rest) := by
      intro rest
      unfold mailS
      split
      · exact key 503 _ (by decide) ho h
      · cases pathL rest [70, 82, 79, 77, 58] with
        | none => exact key 501 _ (by decide) ho h
        | some ar =>
          obtain ⟨a, r⟩ := ar
          simp only [mailP]
          split
          · exact key 501 _ (by decide) ho h
          · cases optL r with
            | none => exact key 501 _ (by decide) ho h
            | some z =>
              simp only
              split
              · exact key 552 _ (by decide) ho h
              · exact key 250 _ (by decide) ho ⟨h.most, h.few, h.nodup, h.len, h.body, h.waits⟩
    have hr : ∀ rest : Bs, Turns m (rcptS s rest) := by
      intro rest
      unfold rcptS
      split
      · exact key 503 _ (by decide) ho h
      · cases pathL rest [84, 79, 58] with
        | none => exact key 501 _ (by decide) ho h
        | some ar =>
          obtain ⟨a, r⟩ := ar
          simp only [rcptP]
          split
          · exact key 501 _ (by decide) ho h
          · rename_i hmay
            split
            · exact key 250 _ (by decide) ho h
            · rename_i hc
              split
              · exact key 452 _ (by decide) ho h
              · rename_i h16
                have hma : mayL a = true := by
                  cases hq : mayL a with
                  | true => rfl
                  | false => exact absurd (Or.inr hq) hmay
                have hal : 3 ≤ a.length ∧ a.length ≤ 254 := by
                  unfold mayL at hma
                  simp only [Bool.and_eq_true, decide_eq_true_eq] at hma
                  omega
                have hna : a ∉ s.rcp := by simpa using hc
                refine key 250 _ (by decide) ho ⟨h.most, by simp; omega, ?_, ?_, fun q => absurd hb q, fun q => by rw [show s.waits = true from q] at hw; cases hw⟩
                · show (s.rcp ++ [a]).Nodup
                  rw [List.nodup_append]
                  refine ⟨h.nodup, by simp, ?_⟩
                  intro z hz z2 hz2 e
                  simp at hz2
                  subst hz2
                  subst e
                  exact hna hz
                · intro z hz
                  rcases List.mem_append.1 hz with q | q
                  · exact h.len z q
                  · simp at q; subst q; exact hal
    have hbare : ∀ (f : Sess → Bs × Sess) (rest : Bs), Turns m (f s) → Turns m (bareS f s rest) := by
      intro f rest hf
      unfold bareS
      split
      · exact hf
      · exact key 501 _ (by decide) ho h
    unfold commandS
    split
    · unfold doS
      repeat' split
      · exact hh _ _ (ehlo_says _)
      · exact hh _ _ Says.none
      · exact hm _
      · exact hr _
      · refine hbare _ _ ?_
        unfold dataS
        split
        · exact key 503 _ (by decide) ho h
        · rename_i hne
          exact key 354 _ (by decide) ho ⟨h.most, h.few, h.nodup, h.len, fun _ => hne, fun q => by rw [show s.waits = true from q] at hw; cases hw⟩
      · exact hbare _ _ (key 250 _ (by decide) ho (hempty h.most rfl hb hw))
      · refine hbare _ _ ⟨⟨[], by simp, ?_⟩, ⟨h.most, h.few, h.nodup, h.len, h.body, h.waits⟩, fun q => by rw [show s.waits = true from q] at hw; cases hw⟩
        simp [quitS, bye]
      · exact key 250 _ (by decide) ho h
      · exact key 252 _ (by decide) ho h
      · exact key 500 _ (by decide) ho h
    · exact key 500 _ (by decide) ho h

/-- What holds behind each line. -/
structure JJ (m : Int) (x : Bs × List Mail × Sess) : Prop where
  w : x.2.2.waits = false
  k : KK m x.2.2
  o : Says x.1 x.2.2.over
  ms : ∀ y ∈ x.2.1, MailOk m y
theorem one_keeps {m : Int} (an : List Int) {x : Bs × List Mail × Sess} (h : JJ m x) (l : Bs) : JJ m (one an x l) := by
  unfold one
  split
  · exact h
  · rename_i ho
    have ho' : x.2.2.over = false := by simpa using ho
    obtain ⟨t1, t2, t3⟩ := turn_keeps h.k h.w ho' l
    have ho1 := h.o
    rw [ho'] at ho1
    split
    · rename_i hq
      have hov := t3 hq
      rw [hov] at t1
      have ha : answerS (turnS x.2.2 l).2 (an.getD x.2.1.length 0) = (replyL (answerC (an.getD x.2.1.length 0)), doneS (turnS x.2.2 l).2) := by unfold answerS; rw [if_pos hq]
      rw [ha]
      refine ⟨rfl, ⟨t2.most, by simp [doneS, resetS], by simp [doneS, resetS], by simp [doneS, resetS], fun q => absurd rfl q, fun q => by simp [doneS, resetS] at q⟩, ?_, ?_⟩
      · show Says _ (turnS x.2.2 l).2.over
        rw [hov]
        refine (ho1.app t1).app (Says.reply _ ?_)
        unfold answerC
        repeat' split
        all_goals decide
      · intro y hy
        rcases List.mem_append.1 hy with q | q
        · exact h.ms y q
        · simp only [List.mem_cons, List.not_mem_nil, or_false] at q
          subst q
          obtain ⟨z, hz, hzl⟩ := t2.waits hq
          have hne := t2.body (by rw [hz]; simp)
          unfold mailE
          rw [if_pos hq, hz]
          exact ⟨List.length_pos_iff.2 hne, t2.few, t2.nodup, t2.len, hzl⟩
    · rename_i hq
      exact ⟨by simpa using hq, t2, ho1.app t1, h.ms⟩
theorem fold_keeps {m : Int} (an : List Int) : ∀ (l : List Bs) {x : Bs × List Mail × Sess}, JJ m x → JJ m (l.foldl (one an) x)
  | [], _, h => h
  | y :: l, _, h => fold_keeps an l (one_keeps an h y)
theorem keeps_plain (m : Int) (l : List Bs) (an : List Int) (h : l.flatten.length < 7000) : Says (wholeL m l an).1 (wholeL m l an).2.2.over ∧ ∀ y ∈ (wholeL m l an).2.1, MailOk m y := by
  have hc : ∀ c ∈ l, c.length < 7000 := by
    intro c hm
    obtain ⟨a, b, rfl⟩ := List.append_of_mem hm
    simp only [List.flatten_append, List.flatten_cons, List.length_append] at h
    omega
  have hs : seen (wholeL m l an) = _ := over_fold an l (newS m) [] [] rfl rfl (by simp [newS]) hc
  have hj : JJ m ((pushL (newS m).rest l.flatten).2.foldl (one an) ([], [], newS m)) :=
    fold_keeps an _ ⟨rfl, ⟨rfl, by simp [newS], by simp [newS], by simp [newS], fun q => absurd rfl q, fun q => by simp [newS] at q⟩, Says.none, by simp⟩
  unfold seen at hs
  simp only [Prod.mk.injEq] at hs
  obtain ⟨e1, e2, e3⟩ := hs
  rw [e1, e2, e3]
  exact ⟨hj.o, hj.ms⟩
/-- Of what is said line for line. -/
theorem says_lines {o : Bs} {q : Bool} (h : Says o q) : ∃ rs : List Bs, (∀ r ∈ rs, plainB r = true) ∧ linesL o = rs ++ (if q then [bye] else []) := by
  obtain ⟨rs, h1, rfl⟩ := h
  refine ⟨rs, h1, ?_⟩
  have hb := bye_line
  simp only [Bool.and_eq_true] at hb
  have e : rs.flatten ++ (if q then bye else []) = (rs ++ (if q then [bye] else [])).flatten := by cases q <;> simp
  rw [e]
  refine linesL_flatten _ fun r hr => ?_
  rcases List.mem_append.1 hr with hq | hq
  · have := h1 r hq
    unfold plainB at this
    simp only [Bool.and_eq_true] at this
    exact this.1
  · cases q
    · simp at hq
    · simp at hq; subst hq; exact hb.1
end Go.Proofs.YtapanjfheddfnaaGreatDoor
