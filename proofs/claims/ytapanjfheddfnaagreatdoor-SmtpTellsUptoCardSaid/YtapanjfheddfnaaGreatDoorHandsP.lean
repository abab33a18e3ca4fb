/- SmtpHands: what the session answers to a client that stuffs its dots. No program here. -/
import Derived.Test.YtapanjfheddfnaaGreatDoorKeepsP
import Derived.Lib.ItoaLen
namespace Go.Proofs.YtapanjfheddfnaaGreatDoor

/-! ### Lines -/
theorem lines_flat (s : Bs) : (linesL s).flatten = s ∧ ∀ x ∈ linesL s, ∀ c ∈ x.dropLast, c ≠ 10 := by
  refine linesL_ind (p := fun s l => l.flatten = s ∧ ∀ x ∈ l, ∀ c ∈ x.dropLast, c ≠ 10) (by simp) (fun s _ hc => ⟨by simp, fun x hx c q => ?_⟩) (fun s l hc ih => ⟨?_, fun x hx c q => ?_⟩) s
  · obtain rfl : x = s := by simpa using hx
    exact cut_not x hc c (List.dropLast_subset x q)
  · rw [List.flatten_cons, ih.1, List.append_assoc, List.singleton_append]
    exact (cut_at s hc).1.symm
  · rcases List.mem_cons.1 hx with rfl | hx
    · rw [List.dropLast_concat] at q
      exact (cut_at s hc).2 c q
    · exact ih.2 x hx c q
/-! ### Stuffing -/
/-! ### The commands -/
/-! ### RCPT -/
theorem trimRight_id (l : Bs) (y : UInt8) (cs : Bs) (h : cs.contains y = false) : Lib.trimRightS (l ++ [y]) cs = l ++ [y] := by
  unfold Lib.trimRightS
  rw [List.reverse_append]
  show (List.dropWhile (cs.contains ·) (y :: l.reverse)).reverse = _
  rw [List.dropWhile_cons_of_neg (by rw [h]; decide)]
  simp
theorem index_byte (c : UInt8) : ∀ (a r : Bs), (∀ x ∈ a, x ≠ c) → Lib.index (a ++ c :: r) [c] = a.length
  | [], r, _ => by
    show Lib.index (c :: r) [c] = _
    unfold Lib.index
    rw [if_pos (show [c].isPrefixOf (c :: r) = true from List.isPrefixOf_iff_prefix.2 ⟨r, rfl⟩)]
    rfl
  | b :: a, r, h => by
    have ih := index_byte c a r (fun x hx => h x (by simp [hx]))
    show Lib.index (b :: (a ++ c :: r)) [c] = _
    unfold Lib.index
    rw [if_neg, ih, if_neg]
    · simp
    · rw [beq_iff_eq]; omega
    · intro q
      obtain ⟨t, ht⟩ := List.isPrefixOf_iff_prefix.1 q
      simp only [List.cons_append, List.nil_append, List.cons.injEq] at ht
      exact h b (by simp) ht.1.symm
theorem cut_byte (c : UInt8) (a r : Bs) (h : ∀ x ∈ a, x ≠ c) : Lib.cut (a ++ c :: r) [c] = (a, r, true) := by
  unfold Lib.cut
  rw [index_byte c a r h, if_pos (by omega)]
  simp only [Int.toNat_natCast, List.length_cons, List.length_nil]
  rw [List.take_left' rfl, show a ++ c :: r = (a ++ [c]) ++ r by simp, List.drop_left' (by simp)]
theorem dec_ne (u : Nat) : 1 ≤ (Lib.decDigits u).length := by
  rw [Lib.decDigits]
  split <;> simp
/-! ### The message -/
end Go.Proofs.YtapanjfheddfnaaGreatDoor
