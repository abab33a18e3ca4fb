/- SmtpHands: what the session answers to a client that stuffs its dots. No program here. -/
import Derived.Test.YtapanjfheddfnaaGreatDoorKeepsP
import Derived.Lib.ItoaLen
namespace Go.Proofs.YtapanjfheddfnaaGreatDoor

/-! ### Lines -/
/-- One whole line. -/
def Ends (x : Bs) : Prop := ∃ d, x = d ++ [10] ∧ ∀ c ∈ d, c ≠ 10
theorem Ends.suffix {x : Bs} (h : Ends x) : Lib.hasSuffix x [10] = true := by
  obtain ⟨d, rfl, _⟩ := h
  rw [suffix10]
  rfl
theorem linesL_of : ∀ rs : List Bs, (∀ r ∈ rs, Ends r) → linesL rs.flatten = rs
  | [], _ => linesL_nil
  | r :: rs, h => by
    obtain ⟨d, e, hd⟩ := h r (by simp)
    have ih := linesL_of rs (fun q hq => h q (by simp [hq]))
    rw [List.flatten_cons, e, List.append_assoc, List.singleton_append, linesL_cons d _ hd, ih]
theorem fold_ends : ∀ (rs o : List Bs), (∀ r ∈ rs, Ends r ∧ r.length ≤ 1000) → rs.foldl stepL ([], o) = ([], o ++ rs)
  | [], o, _ => by simp
  | r :: rs, o, h => by
    obtain ⟨h1, h2⟩ := h r (by simp)
    have e : stepL ([], o) r = ([], o ++ [r]) := by
      unfold stepL
      rw [if_pos h1.suffix]
      have : r.take (min r.length (1000 - ([] : Bs).length)) = r := List.take_of_length_le (by simp; omega)
      rw [this]
      rfl
    rw [List.foldl_cons, e, fold_ends rs _ (fun q hq => h q (by simp [hq]))]
    simp
theorem pushL_of (rs : List Bs) (h : ∀ r ∈ rs, Ends r ∧ r.length ≤ 1000) : pushL [] rs.flatten = ([], rs) := by
  unfold pushL
  rw [linesL_of rs (fun r hr => (h r hr).1), fold_ends rs [] h]
  rfl
theorem lines_flat (s : Bs) : (linesL s).flatten = s ∧ ∀ x ∈ linesL s, ∀ c ∈ x.dropLast, c ≠ 10 := by
  refine linesL_ind (p := fun s l => l.flatten = s ∧ ∀ x ∈ l, ∀ c ∈ x.dropLast, c ≠ 10) (by simp) (fun s _ hc => ⟨by simp, fun x hx c q => ?_⟩) (fun s l hc ih => ⟨?_, fun x hx c q => ?_⟩) s
  · obtain rfl : x = s := by simpa using hx
    exact cut_not x hc c (List.dropLast_subset x q)
  · rw [List.flatten_cons, ih.1, List.append_assoc, List.singleton_append]
    exact (cut_at s hc).1.symm
  · rcases List.mem_cons.1 hx with rfl | hx
    · rw [List.dropLast_concat] at q
      exact (cut_at s hc).2 c q
    · exact ih.2 x hx c q
/-- Feeding one whole line is one turn. -/
theorem feed_one (s : Sess) (x : Bs) (hw : s.waits = false) (ho : s.over = false) (hk : s.kept = []) (hr : s.rest = []) (hx : Ends x) (hl : x.length ≤ 1000) : feedS s x = turnS s x := by
  have hp : pushL [] x = ([], [x]) := by
    have := pushL_of [x] (fun r hr => by obtain rfl : r = x := by simpa using hr
                                         exact ⟨hx, hl⟩)
    simpa using this
  rw [feed_eq s x ⟨hw, .inl hk⟩ hk, hr, hp]
  show runF 1 (withK [x] (withR [] s)) [] = _
  have e : ({ withK [x] (withR [] s) with kept := [] } : Sess) = s := by
    cases s
    simp only [withK, withR] at hk hr ⊢
    subst hk
    subst hr
    rfl
  unfold runF
  show (if (s.waits || s.over) = true then _ else runF 0 (turnS { withK [x] (withR [] s) with kept := [] } x).2 ([] ++ (turnS { withK [x] (withR [] s) with kept := [] } x).1)) = _
  rw [if_neg (by rw [hw, ho]; decide), e]
  rfl
/-- The lines of a message go into the body. -/
theorem run_body (n : Nat) : ∀ (ls ks : List Bs) (s : Sess) (y : Bs), s.body = some y → s.waits = false → s.over = false → s.long = false → s.kept = ls ++ ks → (∀ x ∈ ls, Lib.hasSuffix x [10] = true ∧ bareL x ≠ [46]) →
    runF (ls.length + n) s [] = runF n { s with kept := ks, body := some (y ++ (ls.map fun x => Lib.trimPrefix x [46]).flatten) } []
  | [], ks, s, y, hb, _, _, _, hk, _ => by
    have e : ({ s with kept := ks, body := some (y ++ (([] : List Bs).map fun x => Lib.trimPrefix x [46]).flatten) } : Sess) = s := by
      cases s
      simp only [List.nil_append] at hk hb
      subst hk
      subst hb
      simp
    rw [e]
    simp
  | x :: ls, ks, s, y, hb, hw, ho, hl, hk, h => by
    obtain ⟨h1, h2⟩ := h x (by simp)
    have ih := run_body n ls ks { s with kept := ls ++ ks, body := some (y ++ Lib.trimPrefix x [46]) } (y ++ Lib.trimPrefix x [46]) rfl hw ho hl rfl (fun q hq => h q (by simp [hq]))
    have et : turnS { s with kept := ls ++ ks } x = ([], { s with kept := ls ++ ks, body := some (y ++ Lib.trimPrefix x [46]) }) := by
      unfold turnS
      show (match s.body with | some y => lineS { s with kept := ls ++ ks } y x | none => commandS { s with kept := ls ++ ks } x) = _
      rw [hb]
      unfold lineS
      dsimp only
      rw [if_pos (.inr h2), h1, hl]
      rfl
    have e1 : (x :: ls).length + n = (ls.length + n) + 1 := by simp; omega
    rw [e1]
    conv => lhs; unfold runF
    rw [hk]
    show (if (s.waits || s.over) = true then (([] : Bs), s) else runF (ls.length + n) (turnS { s with kept := ls ++ ks } x).2 ([] ++ (turnS { s with kept := ls ++ ks } x).1)) = _
    rw [if_neg (by rw [hw, ho]; decide), et]
    show runF (ls.length + n) _ [] = _
    rw [ih]
    simp

/-! ### Stuffing -/
def stuff1 (x : Bs) : Bs := if x.head? = some 46 then 46 :: x else x
def stuffL (s : Bs) : Bs := ((linesL s).map stuff1).flatten
/-- What the law asks of a line. -/
def crlfB (x : Bs) : Bool := decide (x.length ≤ 992) && decide (2 ≤ x.length) && (x.drop (x.length - 2) == [13, 10])
theorem bareL_crlf (e : Bs) : bareL (e ++ [13, 10]) = e := by
  have h1 : e ++ [13, 10] = (e ++ [13]) ++ [10] := by simp
  unfold bareL
  rw [h1, suffix10, if_pos (show ((10 : UInt8) == 10) = true from rfl)]
  have h2 : ((e ++ [13]) ++ [10] : Bs).take (((e ++ [13]) ++ [10] : Bs).length - 1) = e ++ [13] := List.take_left' (by simp)
  rw [h2]
  unfold Lib.trimSuffix
  rw [if_pos (show Lib.hasSuffix (e ++ [13]) [13] = true from List.isSuffixOf_iff_suffix.2 ⟨e, rfl⟩)]
  exact List.take_left' (by simp)
theorem stuff_line (x : Bs) (h : crlfB x = true) (hn : ∀ c ∈ x.dropLast, c ≠ 10) : Ends (stuff1 x) ∧ (stuff1 x).length ≤ 1000 ∧ bareL (stuff1 x) ≠ [46] ∧ Lib.trimPrefix (stuff1 x) [46] = x := by
  unfold crlfB at h
  simp only [Bool.and_eq_true, decide_eq_true_eq, beq_iff_eq] at h
  obtain ⟨⟨h1, h2⟩, h3⟩ := h
  obtain ⟨d, rfl⟩ : ∃ d, x = d ++ [13, 10] := ⟨x.take (x.length - 2), by
    have := List.take_append_drop (x.length - 2) x
    rw [h3] at this
    exact this.symm⟩
  have hd : (d ++ [13, 10] : Bs).dropLast = d ++ [13] := by
    rw [show (d ++ [13, 10] : Bs) = (d ++ [13]) ++ [10] by simp]
    exact List.dropLast_concat
  rw [hd] at hn
  have hl : d.length ≤ 990 := by simp at h1; omega
  unfold stuff1
  by_cases hq : (d ++ [13, 10] : Bs).head? = some 46
  · rw [if_pos hq]
    have hd0 : d ≠ [] := by rintro rfl; simp at hq
    have e : (46 :: (d ++ [13, 10]) : Bs) = (46 :: d) ++ [13, 10] := rfl
    refine ⟨⟨46 :: (d ++ [13]), by simp, fun c hc => ?_⟩, by simp; omega, ?_, ?_⟩
    · rcases List.mem_cons.1 hc with rfl | hc
      · decide
      · exact hn c hc
    · rw [e, bareL_crlf]
      simpa using hd0
    · unfold Lib.trimPrefix
      rw [if_pos (show Lib.hasPrefix (46 :: (d ++ [13, 10])) [46] = true from List.isPrefixOf_iff_prefix.2 ⟨_, rfl⟩)]
      rfl
  · rw [if_neg hq]
    refine ⟨⟨d ++ [13], by simp, hn⟩, by simp; omega, ?_, ?_⟩
    · rw [bareL_crlf]
      rintro rfl
      exact hq rfl
    · unfold Lib.trimPrefix
      rw [if_neg]
      intro hp
      obtain ⟨t, ht⟩ := List.isPrefixOf_iff_prefix.1 hp
      rw [← ht] at hq
      exact hq rfl

/-! ### The commands -/
def okL : Bs := [50, 53, 48, 32, 79, 75, 13, 10]
def ehloX : Bs := [69, 72, 76, 79, 32, 120, 13, 10]
def mailX : Bs := [77, 65, 73, 76, 32, 70, 82, 79, 77, 58, 60, 97, 64, 98, 62, 13, 10]
def dataX : Bs := [68, 65, 84, 65, 13, 10]
def fromX : Bs := [97, 64, 98]
def rcptX (a : Bs) : Bs := [82, 67, 80, 84, 32, 84, 79, 58, 60] ++ a ++ [62, 13, 10]
def addrX (n : Nat) : Bs := [114] ++ Lib.itoa n ++ [64] ++ [100]
/-- Behind EHLO; and behind MAIL, with the recipients so far. -/
def sG (m : Int) : Sess := { newS m with greeted := true }
def sM (m : Int) (rs : List Bs) : Sess := { sG m with sender := some fromX, rcp := rs }
def addL (rs : List Bs) (a : Bs) : List Bs := if rs.contains a then rs else rs ++ [a]
theorem ok_reply : replyL 250 = okL := by decide +kernel
theorem hands_ehlo (m : Int) : feedS (newS m) ehloX = (ehloT (mostL m) ++ okL, sG m) := by
  rw [feed_one (newS m) ehloX rfl rfl rfl rfl ⟨[69, 72, 76, 79, 32, 120, 13], rfl, by decide⟩ (by decide)]
  have e : turnS (newS m) ehloX = commandS (newS m) ehloX := rfl
  rw [e]
  unfold commandS
  rw [if_pos (show Lib.hasSuffix ehloX [10] = true by decide +kernel), show greatL (wordL (bareL ehloX)).1 = [69, 72, 76, 79] by decide +kernel, show (wordL (bareL ehloX)).2 = [120] by decide +kernel]
  unfold doS
  rw [if_pos rfl]
  unfold ehloS helloS
  rw [if_neg (by decide), ok_reply]
  rfl
theorem hands_mail (m : Int) : feedS (sG m) mailX = (okL, sM m []) := by
  rw [feed_one (sG m) mailX rfl rfl rfl rfl ⟨[77, 65, 73, 76, 32, 70, 82, 79, 77, 58, 60, 97, 64, 98, 62, 13], rfl, by decide⟩ (by decide)]
  have e : turnS (sG m) mailX = commandS (sG m) mailX := rfl
  rw [e]
  unfold commandS
  rw [if_pos (show Lib.hasSuffix mailX [10] = true by decide +kernel), show greatL (wordL (bareL mailX)).1 = [77, 65, 73, 76] by decide +kernel, show (wordL (bareL mailX)).2 = [70, 82, 79, 77, 58, 60, 97, 64, 98, 62] by decide +kernel]
  unfold doS
  rw [if_neg (by decide), if_neg (by decide), if_pos rfl]
  unfold mailS
  rw [if_neg (show ¬ ((sG m).greeted = false ∨ (sG m).sender ≠ none) from fun q => q.elim (fun q => by cases q) (fun q => q rfl)), show pathL [70, 82, 79, 77, 58, 60, 97, 64, 98, 62] [70, 82, 79, 77, 58] = some (fromX, []) by decide +kernel]
  unfold mailP
  show (if (fromX ≠ [] ∧ mayL fromX = false) ∨ (([] : Bs) ≠ [] ∧ Lib.containsAny (([] : Bs).take 1) blanks = false) then (replyL 501, sG m) else _) = _
  rw [if_neg (by decide +kernel), show optL [] = some 0 from rfl]
  show (if ((sG m).most : Int) < 0 then (replyL 552, sG m) else (replyL 250, { sG m with sender := some fromX })) = _
  rw [if_neg (by omega), ok_reply]
  rfl
theorem hands_data (m : Int) (rs : List Bs) (h : rs ≠ []) : feedS (sM m rs) dataX = (replyL 354, { sM m rs with body := some [] }) := by
  rw [feed_one (sM m rs) dataX rfl rfl rfl rfl ⟨[68, 65, 84, 65, 13], rfl, by decide⟩ (by decide)]
  have e : turnS (sM m rs) dataX = commandS (sM m rs) dataX := rfl
  rw [e]
  unfold commandS
  rw [if_pos (show Lib.hasSuffix dataX [10] = true by decide +kernel), show greatL (wordL (bareL dataX)).1 = [68, 65, 84, 65] by decide +kernel, show (wordL (bareL dataX)).2 = [] by decide +kernel]
  unfold doS
  rw [if_neg (by decide), if_neg (by decide), if_neg (by decide), if_neg (by decide), if_pos rfl]
  unfold bareS dataS
  rw [if_pos rfl, if_neg (show ¬ (sM m rs).rcp = [] from h)]
  rfl

/-! ### RCPT -/
theorem trimRight_id (l : Bs) (y : UInt8) (cs : Bs) (h : cs.contains y = false) : Lib.trimRightS (l ++ [y]) cs = l ++ [y] := by
  unfold Lib.trimRightS
  rw [List.reverse_append]
  show (List.dropWhile (cs.contains ·) (y :: l.reverse)).reverse = _
  rw [List.dropWhile_cons_of_neg (by rw [h]; decide)]
  simp
theorem index_byte (c : UInt8) : ∀ (a r : Bs), (∀ x ∈ a, x ≠ c) → Lib.index (a ++ c :: r) [c] = a.length
  | [], r, _ => by
    show Lib.index (c :: r) [c] = _
    unfold Lib.index
    rw [if_pos (show [c].isPrefixOf (c :: r) = true from List.isPrefixOf_iff_prefix.2 ⟨r, rfl⟩)]
    rfl
  | b :: a, r, h => by
    have ih := index_byte c a r (fun x hx => h x (by simp [hx]))
    show Lib.index (b :: (a ++ c :: r)) [c] = _
    unfold Lib.index
    rw [if_neg, ih, if_neg]
    · simp
    · rw [beq_iff_eq]; omega
    · intro q
      obtain ⟨t, ht⟩ := List.isPrefixOf_iff_prefix.1 q
      simp only [List.cons_append, List.nil_append, List.cons.injEq] at ht
      exact h b (by simp) ht.1.symm
theorem cut_byte (c : UInt8) (a r : Bs) (h : ∀ x ∈ a, x ≠ c) : Lib.cut (a ++ c :: r) [c] = (a, r, true) := by
  unfold Lib.cut
  rw [index_byte c a r h, if_pos (by omega)]
  simp only [Int.toNat_natCast, List.length_cons, List.length_nil]
  rw [List.take_left' rfl, show a ++ c :: r = (a ++ [c]) ++ r by simp, List.drop_left' (by simp)]
theorem dec_digit2 (u : Nat) : ∀ c ∈ Lib.decDigits u, 48 ≤ c.toNat ∧ c.toNat ≤ 57 := by
  induction u using Nat.strongRecOn with
  | _ u ih =>
    intro c hc
    rw [Lib.decDigits] at hc
    by_cases h : u < 10
    · rw [dif_pos h] at hc
      simp only [List.mem_cons, List.not_mem_nil, or_false] at hc
      subst hc
      simp
      omega
    · rw [dif_neg h] at hc
      rcases List.mem_append.1 hc with q | q
      · exact ih (u / 10) (by omega) c q
      · simp only [List.mem_cons, List.not_mem_nil, or_false] at q
        subst q
        simp
        omega
theorem dec_ne (u : Nat) : 1 ≤ (Lib.decDigits u).length := by
  rw [Lib.decDigits]
  split <;> simp
/-- An address of the law's. -/
theorem addr_facts (n : Nat) (hn : n < 65536) : ∃ t : Bs, Lib.itoa n = t ∧ addrX n = 114 :: (t ++ [64, 100]) ∧ 1 ≤ t.length ∧ t.length ≤ 21 ∧ ∀ c ∈ t, 48 ≤ c.toNat ∧ c.toNat ≤ 57 := by
  refine ⟨Lib.itoa n, rfl, by simp [addrX], ?_, Lib.itoa_length_le n (by omega) (by omega), ?_⟩
  · unfold Lib.itoa
    rw [if_neg (by omega)]
    exact dec_ne _
  · unfold Lib.itoa
    rw [if_neg (by omega)]
    exact dec_digit2 _
theorem hands_rcpt (m : Int) (rs : List Bs) (h : rs.length < 16) (n : Nat) (hn : n < 65536) : feedS (sM m rs) (rcptX (addrX n)) = (okL, sM m (addL rs (addrX n))) := by
  obtain ⟨t, -, ha, ht1, ht2, htd⟩ := addr_facts n hn
  obtain ⟨a, hae⟩ : ∃ a, addrX n = a := ⟨_, rfl⟩
  rw [hae] at ha ⊢
  have hac : ∀ c ∈ a, 48 ≤ c.toNat ∧ c.toNat ≤ 114 ∧ c ≠ 60 ∧ c ≠ 62 := by
    intro c hc
    rw [ha] at hc
    simp only [List.mem_cons, List.mem_append, List.not_mem_nil, or_false] at hc
    rcases hc with rfl | hc | rfl | rfl
    · decide
    · have := htd c hc
      refine ⟨this.1, by omega, ?_, ?_⟩
      · rintro rfl; exact absurd this.2 (by decide)
      · rintro rfl; exact absurd this.2 (by decide)
    · decide
    · decide
  have hal : a.length ≤ 24 := by rw [ha]; simp; omega
  have hal3 : 2 < a.length := by rw [ha]; simp
  have hmay : mayL a = true := by
    unfold mayL
    have e : (a.take (a.length - 1)).tail = t ++ 64 :: [] := by
      rw [ha, show (114 :: (t ++ [64, 100]) : Bs) = (114 :: (t ++ [64])) ++ [100] by simp, List.take_left' (by simp)]
      rfl
    rw [e]
    unfold Lib.contains
    rw [index_byte 64 t [] (fun c hc => by rintro rfl; exact absurd (htd 64 hc).2 (by decide))]
    simp
    omega
  have hends : Ends (rcptX a) := ⟨[82, 67, 80, 84, 32, 84, 79, 58, 60] ++ a ++ [62, 13], by simp [rcptX], fun c hc => by
    simp only [List.mem_cons, List.mem_append, List.not_mem_nil, or_false] at hc
    rintro rfl
    rcases hc with (q | q) | q
    · revert q; decide
    · exact absurd (hac 10 q).1 (by decide)
    · revert q; decide⟩
  rw [feed_one (sM m rs) (rcptX a) rfl rfl rfl rfl hends (by simp [rcptX]; omega)]
  have e : turnS (sM m rs) (rcptX a) = commandS (sM m rs) (rcptX a) := rfl
  rw [e]
  have hbare : bareL (rcptX a) = ([82, 67, 80, 84, 32, 84, 79, 58, 60] ++ a) ++ [62] := by
    rw [show rcptX a = (([82, 67, 80, 84, 32, 84, 79, 58, 60] ++ a) ++ [62]) ++ [13, 10] by simp [rcptX]]
    exact bareL_crlf _
  have hword : wordL (([82, 67, 80, 84, 32, 84, 79, 58, 60] ++ a) ++ [62]) = ([82, 67, 80, 84], ([84, 79, 58, 60] ++ a) ++ [62]) := by
    have h1 : Lib.trimS (([82, 67, 80, 84, 32, 84, 79, 58, 60] ++ a) ++ [62]) blanks = ([82, 67, 80, 84, 32, 84, 79, 58, 60] ++ a) ++ [62] := by
      unfold Lib.trimS
      rw [trimRight_id _ 62 blanks (by decide)]
      rfl
    have h2 : Lib.indexAny (([82, 67, 80, 84, 32, 84, 79, 58, 60] ++ a) ++ [62]) blanks = 4 := rfl
    have h3 : Lib.trimS ((([82, 67, 80, 84, 32, 84, 79, 58, 60] ++ a) ++ [62] : Bs).drop 4) blanks = ([84, 79, 58, 60] ++ a) ++ [62] := by
      show Lib.trimS (([32, 84, 79, 58, 60] ++ a) ++ [62]) blanks = _
      unfold Lib.trimS
      rw [trimRight_id _ 62 blanks (by decide)]
      rfl
    unfold wordL
    rw [h1, h2, if_pos (by decide)]
    show (([82, 67, 80, 84] : Bs), Lib.trimS ((([82, 67, 80, 84, 32, 84, 79, 58, 60] ++ a) ++ [62] : Bs).drop 4) blanks) = _
    rw [h3]
  have hpath : pathL (([84, 79, 58, 60] ++ a) ++ [62]) [84, 79, 58] = some (a, []) := by
    have h1 : cutL (([84, 79, 58, 60] ++ a) ++ [62]) [84, 79, 58] = (([60] ++ a) ++ [62], true) := by
      unfold cutL
      rw [if_neg (by simp), if_pos (show greatL ((([84, 79, 58, 60] ++ a) ++ [62] : Bs).take ([84, 79, 58] : Bs).length) = [84, 79, 58] from (show greatL ([84, 79, 58] : Bs) = [84, 79, 58] by decide +kernel))]
      rfl
    have h2 : Lib.trimLeftS (([60] ++ a) ++ [62]) blanks = 60 :: (a ++ [62]) := rfl
    have h3 : Lib.trimPrefix (60 :: (a ++ [62])) [60] = a ++ 62 :: [] := by
      unfold Lib.trimPrefix
      rw [if_pos (show Lib.hasPrefix (60 :: (a ++ [62])) [60] = true from List.isPrefixOf_iff_prefix.2 ⟨_, rfl⟩)]
      rfl
    unfold pathL
    rw [h1]
    show (if true = true then (if Lib.hasPrefix (Lib.trimLeftS (([60] ++ a) ++ [62]) blanks) [60] = true then _ else none) else none) = _
    rw [if_pos rfl, h2, if_pos (show Lib.hasPrefix (60 :: (a ++ [62])) [60] = true from List.isPrefixOf_iff_prefix.2 ⟨_, rfl⟩), h3, cut_byte 62 a [] (fun x hx => (hac x hx).2.2.2)]
    show (if true = true then (if a.all pathC = true then some (a, ([] : Bs)) else none) else none) = _
    rw [if_pos rfl, if_pos]
    refine List.all_eq_true.2 fun c hc => ?_
    obtain ⟨q1, q2, q3, _⟩ := hac c hc
    unfold pathC
    simp only [Bool.and_eq_true, decide_eq_true_eq, bne_iff_ne]
    refine ⟨⟨?_, ?_⟩, q3⟩
    · rw [UInt8.lt_iff_toNat_lt]; show 32 < _; omega
    · rw [UInt8.le_iff_toNat_le]; show _ ≤ 126; omega
  unfold commandS
  rw [if_pos hends.suffix, hbare, hword]
  show doS (sM m rs) (greatL [82, 67, 80, 84]) (([84, 79, 58, 60] ++ a) ++ [62]) = _
  rw [show greatL [82, 67, 80, 84] = [82, 67, 80, 84] by decide +kernel]
  unfold doS
  rw [if_neg (by decide), if_neg (by decide), if_neg (by decide), if_pos rfl]
  unfold rcptS
  rw [if_neg (show ¬ (sM m rs).sender = none by intro q; cases q), hpath]
  show (if ([] : Bs) ≠ [] ∨ mayL a = false then (replyL 501, sM m rs) else
    if rs.contains a then (replyL 250, sM m rs) else
    if 16 ≤ rs.length then (replyL 452, sM m rs) else (replyL 250, { sM m rs with rcp := rs ++ [a] })) = _
  rw [if_neg (by rw [hmay]; decide), ok_reply]
  unfold addL
  cases hc : rs.contains a with
  | true => rfl
  | false =>
    rw [if_neg (by decide), if_neg (by omega)]
    rfl
theorem addL_len (rs : List Bs) (a : Bs) : rs.length ≤ (addL rs a).length ∧ (addL rs a).length ≤ rs.length + 1 ∧ addL rs a ≠ [] := by
  unfold addL
  split
  · rename_i h
    refine ⟨Nat.le_refl _, by omega, ?_⟩
    rintro rfl
    cases h
  · simp

/-! ### The message -/
theorem hands_text (m : Int) (rs : List Bs) (text : Bs) (h : ∀ x ∈ linesL text, crlfB x = true) :
    feedS { sM m rs with body := some [] } (stuffL text ++ [46, 13, 10]) = if mostL m < text.length then (replyL 552, sG m) else ([], { sM m rs with body := some text, waits := true }) := by
  obtain ⟨f1, f2⟩ := lines_flat text
  obtain ⟨L, hL⟩ : ∃ L, linesL text = L := ⟨_, rfl⟩
  have hst : stuffL text = (L.map stuff1).flatten := by unfold stuffL; rw [hL]
  rw [hL] at f1 f2 h
  have hall : ∀ x ∈ L, Ends (stuff1 x) ∧ (stuff1 x).length ≤ 1000 ∧ bareL (stuff1 x) ≠ [46] ∧ Lib.trimPrefix (stuff1 x) [46] = x := fun x hx => stuff_line x (h x hx) (f2 x hx)
  have hp : pushL [] (stuffL text ++ [46, 13, 10]) = ([], L.map stuff1 ++ [[46, 13, 10]]) := by
    have := pushL_of (L.map stuff1 ++ [[46, 13, 10]]) (fun r hr => by
      rcases List.mem_append.1 hr with q | q
      · obtain ⟨x, hx, rfl⟩ := List.mem_map.1 q
        exact ⟨(hall x hx).1, (hall x hx).2.1⟩
      · obtain rfl : r = [46, 13, 10] := by simpa using q
        exact ⟨⟨[46, 13], rfl, by decide⟩, by decide⟩)
    rw [List.flatten_append] at this
    rw [hst]
    simpa using this
  have hbody : ((L.map stuff1).map fun x => Lib.trimPrefix x [46]).flatten = text := by
    rw [List.map_map, ← f1]
    congr 1
    conv => rhs; rw [← List.map_id L]
    exact List.map_congr_left fun x hx => (hall x hx).2.2.2
  rw [feed_eq _ _ ⟨rfl, .inl rfl⟩ rfl]
  show runF (pushL [] (stuffL text ++ [46, 13, 10])).2.length (withK (pushL [] (stuffL text ++ [46, 13, 10])).2 (withR (pushL [] (stuffL text ++ [46, 13, 10])).1 { sM m rs with body := some [] })) [] = _
  rw [hp]
  have hlen : (L.map stuff1 ++ [[46, 13, 10]]).length = (L.map stuff1).length + 1 := by simp
  rw [hlen]
  rw [run_body 1 (L.map stuff1) [[46, 13, 10]] (withK (L.map stuff1 ++ [[46, 13, 10]]) (withR [] { sM m rs with body := some [] })) [] rfl rfl rfl rfl rfl (fun x hx => by
    obtain ⟨y, hy, rfl⟩ := List.mem_map.1 hx
    exact ⟨(hall y hy).1.suffix, (hall y hy).2.2.1⟩), hbody]
  show runF 1 { sM m rs with kept := [[46, 13, 10]], body := some text } [] = _
  unfold runF
  show runF 0 (lineS { sM m rs with body := some text } text [46, 13, 10]).2 ([] ++ (lineS { sM m rs with body := some text } text [46, 13, 10]).1) = _
  have e : lineS { sM m rs with body := some text } text [46, 13, 10] = if mostL m < text.length then (replyL 552, sG m) else ([], { sM m rs with body := some text, waits := true }) := by
    unfold lineS
    rw [if_neg (show ¬ (Lib.hasSuffix [46, 13, 10] [10] = false ∨ bareL [46, 13, 10] ≠ [46]) by decide +kernel)]
    rfl
  rw [e]
  unfold runF
  split <;> rfl
theorem hands_answer (m : Int) (rs : List Bs) (text : Bs) : answerS { sM m rs with body := some text, waits := true } 0 = (okL, sG m) := by
  unfold answerS
  rw [if_pos rfl, show answerC 0 = 250 from rfl, ok_reply]
  rfl
end Go.Proofs.YtapanjfheddfnaaGreatDoor
