/- The bytes of a rune. No program here. -/
import Derived.Lib.TrimU
import Derived.Laws.RangeAny
import Derived.Laws.Runes
namespace Go.Proofs.YtapanjfheddfnaaGreatDoor
/-- The bytes of a rune that begins with a high byte are high. -/
theorem decode_bytes (s : ByteArray) (pos : Nat) (h : pos < s.size) (ha : 128 ≤ (s[pos]'h).toNat) : ∀ j, j < (Utf8.decode s pos).2 → pos + j < s.size ∧ 128 ≤ (s.get! (pos + j)).toNat := by
  have h0 : 128 ≤ (s.get! (pos + 0)).toNat := by rw [get_at s pos h]; exact ha
  intro j
  unfold Utf8.decode
  dsimp only
  repeat' split
  all_goals intro hj
  all_goals obtain rfl | rfl | rfl | rfl : j = 0 ∨ j = 1 ∨ j = 2 ∨ j = 3 := by dsimp only at hj; omega
  all_goals dsimp only at hj
  all_goals (try simp only [Bool.and_eq_true, beq_iff_eq, decide_eq_true_eq] at *)
  all_goals first | omega | exact ⟨by omega, by omega⟩
theorem decode_valid (s : ByteArray) (pos : Nat) : Utf8.valid (Utf8.decode s pos).1 = true := by
  have hb : ∀ k, (s.get! (pos + k)).toNat < 256 := fun k => (s.get! (pos + k)).toNat_lt
  have h0 := hb 0; have h1 := hb 1; have h2 := hb 2; have h3 := hb 3
  unfold Utf8.decode
  simp only [Nat.add_zero] at h0 ⊢
  repeat' split
  all_goals dsimp only
  all_goals (try simp only [Bool.and_eq_true, beq_iff_eq, decide_eq_true_eq] at *)
  all_goals first | (rename_i q; exact q.2) | (rw [validRune_eq]; unfold validRune Utf8.runeError; simp; done) | (rw [validRune_eq]; unfold validRune; simp; omega)
end Go.Proofs.YtapanjfheddfnaaGreatDoor
