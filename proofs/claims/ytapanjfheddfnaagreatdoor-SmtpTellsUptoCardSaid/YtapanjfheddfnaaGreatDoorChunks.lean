/- The feed takes its input byte for byte: how the input is parted into chunks makes no difference. No program here. -/
import Derived.Test.YtapanjfheddfnaaGreatDoorPush
namespace Go.Proofs.YtapanjfheddfnaaGreatDoor

theorem suffix10 (x : Bs) (c : UInt8) : Lib.hasSuffix (x ++ [c]) [10] = (c == 10) := by
  rw [Bool.eq_iff_iff]
  unfold Lib.hasSuffix
  rw [List.isSuffixOf_iff_suffix]
  constructor
  · rintro ⟨t, ht⟩
    have := List.append_inj_right' ht rfl
    simpa using (List.cons.inj this).1.symm
  · intro h
    have : c = 10 := by simpa using h
    subst this
    exact ⟨x, rfl⟩
theorem suffix_app (x y : Bs) (hy : y ≠ []) : Lib.hasSuffix (x ++ y) [10] = Lib.hasSuffix y [10] := by
  obtain ⟨z, c, rfl⟩ : ∃ z c, y = z ++ [c] := ⟨y.dropLast, y.getLast hy, (List.dropLast_concat_getLast hy).symm⟩
  rw [← List.append_assoc, suffix10, suffix10]
theorem stepL_join (st : Bs × List Bs) (c : UInt8) (y : Bs) (hc : c ≠ 10) (hst : st.1.length ≤ 1000) : stepL (stepL st [c]) y = stepL st (c :: y) := by
  have h1 : Lib.hasSuffix [c] [10] = false := by
    have := suffix10 [] c
    simp only [List.nil_append] at this
    rw [this]; simpa using hc
  have e1 : stepL st [c] = (st.1 ++ [c].take (min 1 (1000 - st.1.length)), st.2) := by simp [stepL, h1]
  by_cases hy : y = []
  · subst hy
    rw [e1]
    have h0 : Lib.hasSuffix [] [10] = false := by decide
    simp [stepL, h0, h1]
  · have h2 : Lib.hasSuffix (c :: y) [10] = Lib.hasSuffix y [10] := suffix_app [c] y hy
    rw [e1]
    have e2 : (st.1 ++ [c].take (min 1 (1000 - st.1.length))) ++ y.take (min y.length (1000 - (st.1 ++ [c].take (min 1 (1000 - st.1.length))).length)) = st.1 ++ (c :: y).take (min (c :: y).length (1000 - st.1.length)) := by
      rw [List.append_assoc]
      congr 1
      by_cases hf : st.1.length = 1000
      · have z : 1000 - st.1.length = 0 := by omega
        simp [z, hf]
      · obtain ⟨k, hk⟩ : ∃ k, 1000 - st.1.length = k + 1 := ⟨1000 - st.1.length - 1, by omega⟩
        rw [hk]
        have e3 : min 1 (k + 1) = 1 := by omega
        have e4 : min (c :: y).length (k + 1) = min y.length k + 1 := by simp only [List.length_cons]; omega
        rw [e3, e4, List.take_succ_cons]
        simp only [List.take_succ_cons, List.take_zero, List.singleton_append, List.cons.injEq, true_and, List.length_append, List.length_cons, List.length_nil]
        congr 1
        omega
    unfold stepL
    rw [h2]
    simp only [e2]
theorem stepL_bytes : ∀ (x : Bs) (st : Bs × List Bs), st.1.length ≤ 1000 → (∀ c ∈ x.dropLast, c ≠ 10) → x ≠ [] → stepL st x = x.foldl (fun st c => stepL st [c]) st
  | [], _, _, _, h => absurd rfl h
  | [c], st, _, _, _ => rfl
  | c :: d :: t, st, hst, hx, _ => by
    have hc : c ≠ 10 := hx c (by simp)
    rw [← stepL_join st c (d :: t) hc hst, List.foldl_cons]
    exact stepL_bytes (d :: t) _ (stepL_le _ _ hst) (fun e he => hx e (by simp [List.dropLast] at he ⊢; exact .inr he)) (by simp)
theorem occ_at (s : Bs) (j : Nat) : Lib.occAt s [10] j = true ↔ s[j]? = some 10 := by
  unfold Lib.occAt
  rw [List.isPrefixOf_iff_prefix]
  constructor
  · rintro ⟨t, ht⟩
    have := congrArg List.head? ht
    simp at this
    rw [← this]
  · intro h
    obtain ⟨hj, e⟩ := List.getElem?_eq_some_iff.1 h
    exact ⟨s.drop (j + 1), by rw [List.drop_eq_getElem_cons hj, e]; rfl⟩
theorem cut_at (s : Bs) (h : (Lib.cut s [10]).2.2 = true) : s = (Lib.cut s [10]).1 ++ 10 :: (Lib.cut s [10]).2.1 ∧ ∀ c ∈ (Lib.cut s [10]).1, c ≠ 10 := by
  rcases Lib.index_spec s [10] with ⟨h1, _⟩ | ⟨i, h1, h2, h3, h4⟩
  · unfold Lib.cut at h
    rw [h1] at h
    rw [if_neg (by omega)] at h
    cases h
  · have hc : Lib.cut s [10] = (s.take i, s.drop (i + 1), true) := by
      unfold Lib.cut
      rw [h1, if_pos (by omega)]
      rfl
    rw [hc]
    have e := (occ_at s i).1 h3
    obtain ⟨hj, e⟩ := List.getElem?_eq_some_iff.1 e
    refine ⟨?_, fun c hm e10 => ?_⟩
    · conv => lhs; rw [← List.take_append_drop i s, List.drop_eq_getElem_cons hj, e]
    · obtain ⟨j, hj1, hj2⟩ := List.getElem_of_mem hm
      simp only [List.length_take] at hj1
      have hj3 : s[j]? = some 10 := by
        rw [List.getElem_take] at hj2
        rw [List.getElem?_eq_getElem (by omega), hj2, e10]
      have := h4 j (by omega)
      rw [(occ_at s j).2 hj3] at this
      cases this
theorem cut_not (s : Bs) (h : (Lib.cut s [10]).2.2 = false) : ∀ c ∈ s, c ≠ 10 := by
  rcases Lib.index_spec s [10] with ⟨_, h2⟩ | ⟨i, h1, _⟩
  · intro c hm e10
    obtain ⟨j, hj1, hj2⟩ := List.getElem_of_mem hm
    have hj3 : s[j]? = some 10 := by rw [List.getElem?_eq_getElem hj1, hj2, e10]
    have := h2 j (by omega)
    rw [(occ_at s j).2 hj3] at this
    cases this
  · unfold Lib.cut at h
    rw [h1, if_pos (by omega)] at h
    cases h
theorem linesL_bytes (s : Bs) : ∀ st : Bs × List Bs, st.1.length ≤ 1000 → (linesL s).foldl stepL st = s.foldl (fun st c => stepL st [c]) st := by
  refine linesL_ind (p := fun s l => ∀ st : Bs × List Bs, st.1.length ≤ 1000 → l.foldl stepL st = s.foldl (fun st c => stepL st [c]) st) (fun st _ => rfl) (fun s hs hc st hst => ?_) (fun s l hc ih st hst => ?_) s
  · have := cut_not s hc
    exact stepL_bytes s st hst (fun c q => this c (List.dropLast_subset s q)) hs
  · obtain ⟨e1, e2⟩ := cut_at s hc
    have e3 : s.foldl (fun st c => stepL st [c]) st = (Lib.cut s [10]).2.1.foldl (fun st c => stepL st [c]) (((Lib.cut s [10]).1 ++ [10]).foldl (fun st c => stepL st [c]) st) := by
      rw [← List.foldl_append]
      congr 1
      rw [List.append_assoc]
      exact e1
    rw [e3, ← stepL_bytes ((Lib.cut s [10]).1 ++ [10]) st hst (by rw [List.dropLast_concat]; exact e2) (by simp), List.foldl_cons]
    exact ih _ (stepL_le _ _ hst)
theorem bytes_le (s : Bs) : ∀ st : Bs × List Bs, st.1.length ≤ 1000 → (s.foldl (fun st c => stepL st [c]) st).1.length ≤ 1000 := by
  induction s with
  | nil => exact fun _ h => h
  | cons c s ih => exact fun st h => ih _ (stepL_le _ _ h)
/-- What a chunk completes, behind what another one has completed. -/
theorem fold_out (s : Bs) : ∀ (r : Bs) (o : List Bs), s.foldl (fun st c => stepL st [c]) (r, o) = ((s.foldl (fun st c => stepL st [c]) (r, [])).1, o ++ (s.foldl (fun st c => stepL st [c]) (r, [])).2) := by
  induction s with
  | nil => intro r o; simp
  | cons c s ih =>
    intro r o
    have h : ∀ o : List Bs, stepL (r, o) [c] = ((stepL (r, []) [c]).1, o ++ (stepL (r, []) [c]).2) := fun o => by unfold stepL; split <;> simp
    rw [List.foldl_cons, List.foldl_cons, h o, ih _ (o ++ _)]
    rw [show stepL (r, []) [c] = ((stepL (r, []) [c]).1, (stepL (r, []) [c]).2) from rfl, ih _ (stepL (r, []) [c]).2]
    simp
theorem pushL_append (r a b : Bs) (hr : r.length ≤ 1000) : pushL r (a ++ b) = ((pushL (pushL r a).1 b).1, (pushL r a).2 ++ (pushL (pushL r a).1 b).2) := by
  unfold pushL
  have h1 : ((linesL a).foldl stepL (r, [])).1.length ≤ 1000 := by rw [linesL_bytes a (r, []) hr]; exact bytes_le a _ hr
  rw [linesL_bytes (a ++ b) (r, []) hr, linesL_bytes b (((linesL a).foldl stepL (r, [])).1, []) h1, linesL_bytes a (r, []) hr, List.foldl_append]
  have := fold_out b (a.foldl (fun st c => stepL st [c]) (r, [])).1 (a.foldl (fun st c => stepL st [c]) (r, [])).2
  exact this
end Go.Proofs.YtapanjfheddfnaaGreatDoor
