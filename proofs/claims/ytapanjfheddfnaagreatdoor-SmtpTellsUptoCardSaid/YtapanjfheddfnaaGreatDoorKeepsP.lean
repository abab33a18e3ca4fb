/- SmtpKeeps: what each reply and each message is. No program here. -/
import Derived.Test.YtapanjfheddfnaaGreatDoorPieces
namespace Go.Proofs.YtapanjfheddfnaaGreatDoor

/-! ### The replies -/
/-- One line: a code that the parser takes, a blank or a dash, CR LF at its end and no LF before. -/
def lineB (r : Bs) : Bool := decide (7 ≤ r.length) && (r.drop (r.length - 2) == [13, 10]) && (r[3]? == some 32 || r[3]? == some 45) && (parseL (r.take 3) 221 554).2 && r.dropLast.all (· != 10)
/-- And its code is not 221. -/
def plainB (r : Bs) : Bool := lineB r && (parseL (r.take 3) 221 554).1 != 221
def bye : Bs := replyL 221
/-- What a turn says: plain lines, and, where it ends the session, the farewell. -/
def Says (o : Bs) (over : Bool) : Prop := ∃ rs : List Bs, (∀ r ∈ rs, plainB r = true) ∧ o = rs.flatten ++ (if over then bye else [])
theorem Says.none : Says [] false := ⟨[], by simp, rfl⟩
theorem split_unique : ∀ (d c r q : Bs), (∀ x ∈ d, x ≠ 10) → (∀ x ∈ c, x ≠ 10) → d ++ 10 :: r = c ++ 10 :: q → d = c ∧ r = q
  | [], [], r, q, _, _, h => by simp at h; exact ⟨rfl, h⟩
  | [], y :: c, r, q, _, hc, h => by simp at h; exact absurd h.1.symm (hc y (by simp))
  | x :: d, [], r, q, hd, _, h => by simp at h; exact absurd h.1 (hd x (by simp))
  | x :: d, y :: c, r, q, hd, hc, h => by
    simp only [List.cons_append, List.cons.injEq] at h
    obtain ⟨e1, e2⟩ := split_unique d c r q (fun z hz => hd z (by simp [hz])) (fun z hz => hc z (by simp [hz])) h.2
    exact ⟨by rw [h.1, e1], e2⟩
theorem linesL_cons (d r : Bs) (hd : ∀ x ∈ d, x ≠ 10) : linesL (d ++ 10 :: r) = (d ++ [10]) :: linesL r := by
  have hne : d ++ 10 :: r ≠ [] := by simp
  cases hc : (Lib.cut (d ++ 10 :: r) [10]).2.2 with
  | false => exact absurd rfl (cut_not _ hc 10 (by simp))
  | true =>
    obtain ⟨e, hn⟩ := cut_at _ hc
    obtain ⟨e1, e2⟩ := split_unique d _ r _ hd hn e
    rw [linesL_ends _ hne hc, ← e1, ← e2]
/-! ### The session -/
structure KK (m : Int) (s : Sess) : Prop where
  most : s.most = mostL m
  few : s.rcp.length ≤ 16
  nodup : s.rcp.Nodup
  len : ∀ a ∈ s.rcp, 3 ≤ a.length ∧ a.length ≤ 254
  body : s.body ≠ none → s.rcp ≠ []
  waits : s.waits = true → ∃ y, s.body = some y ∧ y.length ≤ mostL m
def MailOk (m : Int) (x : Mail) : Prop := 1 ≤ x.2.1.length ∧ x.2.1.length ≤ 16 ∧ x.2.1.Nodup ∧ (∀ a ∈ x.2.1, 3 ≤ a.length ∧ a.length ≤ 254) ∧ x.2.2.length ≤ mostL m
/-- What holds behind each line. -/
structure JJ (m : Int) (x : Bs × List Mail × Sess) : Prop where
  w : x.2.2.waits = false
  k : KK m x.2.2
  o : Says x.1 x.2.2.over
  ms : ∀ y ∈ x.2.1, MailOk m y
end Go.Proofs.YtapanjfheddfnaaGreatDoor
