/- Merged: TellsT, TellsO, TellsQ, TellsE, TellsF, TellsG, TellsY. -/
import Derived.Test.YtapanjfheddfnaaGreatDoorCmd
import Derived.Test.YtapanjfheddfnaaGreatDoorHandsP
import Derived.Lib.MapLaws
import Derived.Lib.TrimAscii
import Derived.Lib.TrimUEq
import Derived.Test.YtapanjfheddfnaaGreatDoorChunks
import Derived.Lib.LazyBuf
import Derived.Lib.ItoaLen
import Derived.Test.YtapanjfheddfnaaGreatDoorRefA
section
/- What the reference's text functions compute, and that it is what the program's compute. No program here. -/
namespace Go.Proofs.YtapanjfheddfnaaGreatDoor

/-- Upper case, of a byte. -/
def upB (c : UInt8) : UInt8 := if 97 ≤ c ∧ c ≤ 122 then c - 32 else c
def upL (l : Bs) : Bs := l.map upB
def nb (c : UInt8) : Bool := !(blanks.contains c)
def Asc (l : Bs) : Prop := ∀ x ∈ l, x.toNat < 128

theorem up_asc (c : UInt8) (h : c.toNat < 128) : Lib.encodeRune (grR c.toNat) = [upB c] ∧ 0 ≤ grR c.toNat := by
  have key : ∀ n : Nat, n < 128 → Lib.encodeRune (grR (UInt8.ofNat n).toNat) = [upB (UInt8.ofNat n)] ∧ 0 ≤ grR (UInt8.ofNat n).toNat := by decide +kernel
  have := key c.toNat h
  simpa using this
theorem up_high (c : UInt8) (h : 128 ≤ c.toNat) : upB c = c := by
  unfold upB
  rw [if_neg]
  rintro ⟨_, h2⟩
  have := UInt8.le_iff_toNat_le.1 h2
  simp at this
  omega
theorem decode_high (c : UInt8) (l : Bs) (h : 128 ≤ c.toNat) : 128 ≤ (Lib.decodeL (c :: l)).1 := by
  rw [Lib.decodeL_N]
  have : (c :: l).getD 0 0 = c := rfl
  rw [this]
  unfold Lib.decodeN
  rw [if_neg (by omega)]
  repeat' split
  all_goals (try dsimp only at *; omega)
theorem byte_high (n : Nat) (h : 128 ≤ n) (h2 : n < 256) : 128 ≤ (n.toUInt8).toNat := by
  have : (n.toUInt8).toNat = n := by simp [Nat.toUInt8]; omega
  omega
theorem encode_high (r : Int) (h : 128 ≤ r) : ∃ d t, Lib.encodeRune r = d :: t ∧ 128 ≤ d.toNat := by
  unfold Lib.encodeRune Lib.encodeRuneZ
  rw [if_neg (by omega)]
  split
  · exact ⟨_, _, rfl, byte_high _ (by omega) (by omega)⟩
  · split
    · exact ⟨_, _, rfl, byte_high _ (by omega) (by omega)⟩
    · split
      · exact ⟨_, _, rfl, byte_high _ (by omega) (by omega)⟩
      · exact ⟨_, _, rfl, byte_high _ (by decide) (by decide)⟩
theorem great_cons (c : UInt8) (l : Bs) (h : c.toNat < 128) : greatL (c :: l) = upB c :: greatL l := by
  unfold greatL
  obtain ⟨e, z⟩ := up_asc c h
  rw [Lib.mapD_step _ _ (by simp), Lib.decodeL_ascii c l h]
  dsimp only
  rw [if_pos z, e]
  rfl
theorem great_high (c : UInt8) (l : Bs) (h : 128 ≤ c.toNat) : ∃ d t, greatL (c :: l) = d :: t ∧ 128 ≤ d.toNat := by
  unfold greatL
  have hd := decode_high c l h
  have e : grR (Lib.decodeL (c :: l)).1 = (Lib.decodeL (c :: l)).1 := by unfold grR; rw [if_neg (by omega)]
  rw [Lib.mapD_step _ _ (by simp), e, if_pos (by omega)]
  obtain ⟨d, t, q, hq⟩ := encode_high ((Lib.decodeL (c :: l)).1 : Nat) (by omega)
  rw [q]
  exact ⟨d, _, rfl, hq⟩
/-- Behind an ASCII text. -/
theorem great_split : ∀ (b p r : Bs), Asc b → (greatL p = b ++ r ↔ ∃ q v, p = q ++ v ∧ upL q = b ∧ greatL v = r)
  | [], p, r, _ => by
    constructor
    · intro h; exact ⟨[], p, rfl, rfl, h⟩
    · rintro ⟨q, v, rfl, hq, hv⟩
      have : q = [] := by cases q with | nil => rfl | cons x q => simp [upL] at hq
      subst this
      exact hv
  | x :: b, [], r, _ => by
    constructor
    · intro h; cases h
    · rintro ⟨q, v, h, hq, hv⟩
      have : q = [] := (List.append_eq_nil_iff.1 h.symm).1
      subst this
      cases hq
  | x :: b, c :: p, r, hb => by
    have hx := hb x (by simp)
    have ih := great_split b p r (fun y hy => hb y (by simp [hy]))
    rcases Nat.lt_or_ge c.toNat 128 with hc | hc
    · rw [great_cons c p hc]
      constructor
      · intro h
        obtain ⟨h1, h2⟩ := List.cons.inj h
        obtain ⟨q, v, e1, e2, e3⟩ := ih.1 h2
        exact ⟨c :: q, v, by rw [e1]; rfl, by show upB c :: upL q = _; rw [h1, e2], e3⟩
      · rintro ⟨q, v, e1, e2, e3⟩
        cases q with
        | nil => cases e2
        | cons y q =>
          obtain ⟨rfl, e4⟩ := List.cons.inj e1
          obtain ⟨e5, e6⟩ := List.cons.inj (show upB c :: upL q = x :: b from e2)
          rw [e5, ih.2 ⟨q, v, e4, e6, e3⟩]
          rfl
    · obtain ⟨d, t, e, hd⟩ := great_high c p hc
      rw [e]
      constructor
      · intro h
        obtain ⟨rfl, _⟩ := List.cons.inj h
        omega
      · rintro ⟨q, v, e1, e2, e3⟩
        cases q with
        | nil => cases e2
        | cons y q =>
          obtain ⟨rfl, e4⟩ := List.cons.inj e1
          obtain ⟨e5, e6⟩ := List.cons.inj (show upB c :: upL q = x :: b from e2)
          rw [up_high c hc] at e5
          subst e5
          omega
theorem great_nil {v : Bs} (h : greatL v = []) : v = [] := by
  cases v with
  | nil => rfl
  | cons c l =>
    rcases Nat.lt_or_ge c.toNat 128 with hc | hc
    · rw [great_cons c l hc] at h; cases h
    · obtain ⟨d, t, e, _⟩ := great_high c l hc
      rw [e] at h; cases h
theorem great_iff (b p : Bs) (hb : Asc b) : greatL p = b ↔ upL p = b := by
  have := great_split b p [] hb
  rw [List.append_nil] at this
  rw [this]
  constructor
  · rintro ⟨q, v, rfl, h1, h2⟩
    have := great_nil h2
    subst this
    rw [List.append_nil]; exact h1
  · intro h
    exact ⟨p, [], (List.append_nil _).symm, h, rfl⟩

/-! ### a prefix -/
def behindB (s b : Bs) : Bs × Bool := if s.length < b.length then ([], false) else if upL (s.take b.length) = b then (s.drop b.length, true) else ([], false)
theorem behind_cut (s b : Bs) (hb : Asc b) : (behindB s b).2 = (cutL s b).2 ∧ ((behindB s b).2 = true → (behindB s b).1 = (cutL s b).1) := by
  unfold behindB cutL
  split
  · exact ⟨rfl, fun h => by cases h⟩
  · by_cases h : upL (s.take b.length) = b
    · rw [if_pos h, if_pos ((great_iff b _ hb).2 h)]; exact ⟨rfl, fun _ => rfl⟩
    · rw [if_neg h, if_neg (fun q => h ((great_iff b _ hb).1 q))]; exact ⟨rfl, fun h => by cases h⟩

/-! ### words -/
theorem index_take (l : Bs) : (0 ≤ Lib.indexAny l blanks → l.take (Lib.indexAny l blanks).toNat = l.takeWhile nb ∧ l.drop (Lib.indexAny l blanks).toNat = l.dropWhile nb) ∧ (¬ 0 ≤ Lib.indexAny l blanks → l.takeWhile nb = l ∧ l.dropWhile nb = []) := by
  induction l with
  | nil => exact ⟨fun h => (by simp [Lib.indexAny] at h), fun _ => ⟨rfl, rfl⟩⟩
  | cons c l ih =>
    by_cases hc : blanks.contains c = true
    · have e : Lib.indexAny (c :: l) blanks = 0 := by simp only [Lib.indexAny]; rw [if_pos hc]
      rw [e]
      refine ⟨fun _ => ?_, fun h => absurd (Int.le_refl 0) h⟩
      have hn : nb c = false := by unfold nb; rw [hc]; rfl
      rw [List.takeWhile_cons, List.dropWhile_cons, hn]
      exact ⟨rfl, rfl⟩
    · have hn : nb c = true := by unfold nb; rw [Bool.eq_false_iff.2 hc]; rfl
      have hg := Lib.indexAny_ge blanks l
      rw [List.takeWhile_cons, List.dropWhile_cons, if_pos hn, if_pos hn]
      by_cases h0 : 0 ≤ Lib.indexAny l blanks
      · have e : Lib.indexAny (c :: l) blanks = Lib.indexAny l blanks + 1 := by
          simp only [Lib.indexAny]; rw [if_neg hc, if_neg (by simp; omega)]
        have e2 : (Lib.indexAny l blanks + 1).toNat = (Lib.indexAny l blanks).toNat + 1 := by omega
        rw [e, e2]
        obtain ⟨a, b⟩ := ih.1 h0
        exact ⟨fun _ => ⟨by rw [List.take_succ_cons, a], by rw [List.drop_succ_cons, b]⟩, fun h => absurd (by omega) h⟩
      · have e1 : Lib.indexAny l blanks = -1 := by omega
        have e : Lib.indexAny (c :: l) blanks = -1 := by simp only [Lib.indexAny]; rw [if_neg hc, e1]; rfl
        rw [e]
        obtain ⟨a, b⟩ := ih.2 h0
        exact ⟨fun h => absurd h (by omega), fun _ => ⟨by rw [a], b⟩⟩
theorem trim_nil : Lib.trimS [] blanks = [] := rfl
theorem word_eq (l : Bs) : wordL l = ((Lib.trimS l blanks).takeWhile nb, Lib.trimS ((Lib.trimS l blanks).dropWhile nb) blanks) := by
  unfold wordL
  obtain ⟨a, b⟩ := index_take (Lib.trimS l blanks)
  split
  · rename_i h
    obtain ⟨e1, e2⟩ := a h
    rw [e1, e2]
  · rename_i h
    obtain ⟨e1, e2⟩ := b h
    rw [e1, e2, trim_nil]

/-! ### trimmed at the right -/
def RT (l : Bs) : Prop := ∀ x, l.getLast? = some x → blanks.contains x = false
theorem rt_id {l : Bs} (h : RT l) : Lib.trimRightS l blanks = l := by
  rcases List.eq_nil_or_concat l with rfl | ⟨a, x, rfl⟩
  · rfl
  · rw [List.concat_eq_append] at h ⊢
    exact trimRight_id a x blanks (h x (by simp))
theorem rt_drop {l : Bs} (h : RT l) (n : Nat) : RT (l.drop n) := by
  intro x hx
  refine h x ?_
  rw [List.getLast?_drop] at hx
  split at hx
  · cases hx
  · exact hx
theorem dropWhile_head (q : UInt8 → Bool) : ∀ (l : Bs) (x : UInt8), (l.dropWhile q).head? = some x → q x = false
  | [], x, h => by cases h
  | c :: l, x, h => by
    rw [List.dropWhile_cons] at h
    split at h
    · exact dropWhile_head q l x h
    · rename_i hc
      simp at h
      subst h
      simpa using hc
theorem rt_trimRight (l : Bs) : RT (Lib.trimRightS l blanks) := by
  intro x hx
  unfold Lib.trimRightS at hx
  rw [List.getLast?_reverse] at hx
  exact dropWhile_head _ _ x hx
theorem suffix_dropWhile (q : UInt8 → Bool) (l : Bs) : ∃ n, l.dropWhile q = l.drop n ∧ n ≤ l.length := by
  induction l with
  | nil => exact ⟨0, rfl, Nat.le_refl _⟩
  | cons c l ih =>
    rw [List.dropWhile_cons]
    split
    · obtain ⟨n, e, hn⟩ := ih
      exact ⟨n + 1, e, by simp; omega⟩
    · exact ⟨0, rfl, Nat.zero_le _⟩
theorem rt_dropWhile {l : Bs} (h : RT l) (q : UInt8 → Bool) : RT (l.dropWhile q) := by
  obtain ⟨n, e, _⟩ := suffix_dropWhile q l
  rw [e]; exact rt_drop h n
theorem rt_trim (l : Bs) : RT (Lib.trimS l blanks) := rt_dropWhile (rt_trimRight l) _
theorem trim_rt {l : Bs} (h : RT l) : Lib.trimS l blanks = Lib.trimLeftS l blanks := by unfold Lib.trimS; rw [rt_id h]

/-! ### paths -/
def pc (c : UInt8) : Bool := pathC c && c != 62
def pathB (s : Bs) : Option (Bs × Bs) :=
  match s with
  | [] => none
  | x :: t => if x = 60 then (match t.dropWhile pc with | y :: r => if y = 62 then some (t.takeWhile pc, r) else none | [] => none) else none
def pathR (s b : Bs) : Option (Bs × Bs) := if (behindB s b).2 then pathB (Lib.trimS (behindB s b).1 blanks) else none
theorem cut_none (c : UInt8) : ∀ t : Bs, (∀ x ∈ t, x ≠ c) → Lib.cut t [c] = (t, [], false) := by
  intro t ht
  have : ¬ 0 ≤ Lib.index t [c] := by
    induction t with
    | nil => simp [Lib.index]
    | cons x t ih =>
      have hx := ht x (by simp)
      have ih := ih (fun y hy => ht y (by simp [hy]))
      have hg := Lib.index_ge t [c]
      have e : Lib.index t [c] = -1 := by omega
      simp only [Lib.index]
      have : ([c] : Bs).isPrefixOf (x :: t) = false := by simp [List.isPrefixOf, Ne.symm hx]
      rw [this, e]
      decide
  unfold Lib.cut
  rw [if_neg this]
theorem path_core (t : Bs) : (if (Lib.cut t [62]).2.2 then (if (Lib.cut t [62]).1.all pathC then some ((Lib.cut t [62]).1, (Lib.cut t [62]).2.1) else none) else none) =
    (match t.dropWhile pc with | y :: r => if y = 62 then some (t.takeWhile pc, r) else none | [] => none : Option (Bs × Bs)) := by
  by_cases hm : (62 : UInt8) ∈ t
  · obtain ⟨a, r, rfl, ha⟩ := List.eq_append_cons_of_mem hm
    have ha' : ∀ x ∈ a, x ≠ 62 := fun x hx e => ha (e ▸ hx)
    rw [cut_byte 62 a r ha']
    dsimp only
    rw [if_pos rfl]
    by_cases hp : a.all pathC = true
    · rw [if_pos hp]
      have h1 : ∀ x ∈ a, pc x = true := fun x hx => by
        have q1 := List.all_eq_true.1 hp x hx
        have q2 := ha' x hx
        simp [pc, q1, q2]
      rw [List.dropWhile_append_of_pos h1, List.takeWhile_append_of_pos h1]
      simp [List.dropWhile_cons, List.takeWhile_cons, pc]
    · rw [if_neg hp]
      have : ∃ x ∈ a, ¬ pathC x = true := by
        have hp' : a.all pathC = false := Bool.eq_false_iff.2 hp
        obtain ⟨x, hx, hn⟩ := List.all_eq_false.1 hp'
        exact ⟨x, hx, hn⟩
      obtain ⟨x, hx, hn⟩ := this
      have key : ∀ a : Bs, x ∈ a → (∀ x ∈ a, x ≠ 62) → ∀ r : Bs, ∃ y q, (a ++ 62 :: r).dropWhile pc = y :: q ∧ y ≠ 62 := by
        intro a
        induction a with
        | nil => intro h; cases h
        | cons z a ih =>
          intro h h2 r
          rw [List.cons_append, List.dropWhile_cons]
          by_cases hz : pc z = true
          · rw [if_pos hz]
            have : x ≠ z := by rintro rfl; exact hn (by simp [pc] at hz; exact hz.1)
            exact ih (by simpa [this] using h) (fun y hy => h2 y (by simp [hy])) r
          · rw [if_neg hz]
            exact ⟨z, _, rfl, h2 z (by simp)⟩
      obtain ⟨y, q, e, hy⟩ := key a hx ha' r
      rw [e]
      dsimp only
      rw [if_neg hy]
  · rw [cut_none 62 t (fun x hx e => hm (e ▸ hx))]
    dsimp only
    rw [if_neg (by simp)]
    split
    · rename_i y r e
      split
      · rename_i h
        exfalso
        apply hm
        have : y ∈ t := by
          obtain ⟨n, q, _⟩ := suffix_dropWhile pc t
          rw [e] at q
          exact List.mem_of_mem_drop (q ▸ List.mem_cons_self)
        rw [h] at this; exact this
      · rfl
    · rfl
theorem path_eq (s b : Bs) (hb : Asc b) (h : RT s) : pathR s b = pathL s b := by
  unfold pathR pathL
  obtain ⟨e1, e2⟩ := behind_cut s b hb
  rw [e1]
  cases hc : (cutL s b).2
  · rfl
  · rw [if_pos rfl, if_pos rfl]
    rw [e1] at e2
    rw [e2 hc]
    have hrt : RT (cutL s b).1 := by
      have : (cutL s b).1 = s.drop b.length := by
        unfold cutL at hc ⊢
        split at hc
        · cases hc
        · split at hc
          · rename_i h1 h2; rw [if_neg h1, if_pos h2]
          · cases hc
      rw [this]; exact rt_drop h _
    rw [trim_rt hrt]
    cases ht : Lib.trimLeftS (cutL s b).1 blanks with
    | nil => rfl
    | cons x t =>
      unfold pathB
      dsimp only
      by_cases hx : x = 60
      · subst hx
        have e : Lib.hasPrefix (60 :: t) [60] = true := by simp [Lib.hasPrefix, List.isPrefixOf]
        have e2 : Lib.trimPrefix (60 :: t) [60] = t := by unfold Lib.trimPrefix; rw [e]; rfl
        rw [if_pos rfl, e, if_pos rfl, e2]
        exact (path_core t).symm
      · have e : Lib.hasPrefix (x :: t) [60] = false := by simp [Lib.hasPrefix, List.isPrefixOf, Ne.symm hx]
        rw [if_neg hx, e]
        rfl

/-! ### addresses -/
theorem contains_byte (c : UInt8) : ∀ l : Bs, Lib.contains l [c] = l.any (· == c)
  | [] => rfl
  | x :: l => by
    have ih := contains_byte c l
    unfold Lib.contains at ih ⊢
    have hg := Lib.index_ge l [c]
    rw [List.any_cons, ← ih]
    have e : Lib.index (x :: l) [c] = if ([c] : Bs).isPrefixOf (x :: l) then 0 else if Lib.index l [c] == -1 then -1 else Lib.index l [c] + 1 := rfl
    rw [e]
    by_cases hx : c = x
    · subst hx; simp [List.isPrefixOf]
    · have h0 : ([c] : Bs).isPrefixOf (x :: l) = false := by simp [List.isPrefixOf, hx]
      have hx' : (x == c) = false := by simpa using Ne.symm hx
      rw [h0, hx', Bool.false_or]
      simp only [Bool.false_eq_true, if_false]
      by_cases h1 : Lib.index l [c] = -1
      · rw [h1]; decide
      · have h2 : (Lib.index l [c] == -1) = false := by simpa using h1
        rw [h2]
        simp only [Bool.false_eq_true, if_false]
        rw [decide_eq_decide]; omega
/-- An '@' inside. -/
def mayB (a : Bs) : Bool := decide (a.length ≤ 254) && (a.take (a.length - 1)).tail.any (· == 64)
theorem may_eq (a : Bs) : mayB a = mayL a := by
  unfold mayB mayL
  rw [contains_byte]
  by_cases h : 2 < a.length
  · rw [decide_eq_true h, Bool.true_and]
  · have : (a.take (a.length - 1)).tail = [] := by
      apply List.eq_nil_of_length_eq_zero
      rw [List.length_tail, List.length_take]
      omega
    rw [this]
    simp
end Go.Proofs.YtapanjfheddfnaaGreatDoor
end
section
/- Numbers and the options of MAIL as the reference reads them, and that the program reads the same. No program here. -/
namespace Go.Proofs.YtapanjfheddfnaaGreatDoor

/-! ### numbers -/
def valF : Bs → Nat → Option Nat
  | [], m => some m
  | c :: r, m => if isDig c ∧ 10 * m + (c.toNat - 48) ≤ 9223372036854775808 then valF r (10 * m + (c.toNat - 48)) else none
def isNeg (s : Bs) : Bool := s.head? == some 45
def signB (s : Bs) : Bs := if isNeg s then s.drop 1 else s
/-- pouchref01.Parse(s, 0, MaxInt). -/
def parseB (s : Bs) : Int × Bool :=
  match valF (signB s) 0 with
  | none => (0, false)
  | some m =>
    if isNeg s = false ∧ m = 9223372036854775808 then (0, false) else
    if Lib.itoa (if isNeg s then -(m : Int) else m) ≠ s ∨ (if isNeg s then -(m : Int) else m) < 0 then (0, false) else ((if isNeg s then -(m : Int) else m), true)
def valN : Bs → Nat → Nat
  | [], m => m
  | c :: r, m => valN r (10 * m + (c.toNat - 48))
theorem valN_ge : ∀ (l : Bs) (m : Nat), m ≤ valN l m
  | [], m => Nat.le_refl _
  | c :: r, m => by have := valN_ge r (10 * m + (c.toNat - 48)); unfold valN; omega
theorem valN_snoc : ∀ (l : Bs) (c : UInt8) (m : Nat), valN (l ++ [c]) m = 10 * valN l m + (c.toNat - 48)
  | [], c, m => rfl
  | x :: l, c, m => valN_snoc l c _
theorem isDig_iff (c : UInt8) : isDig c = true ↔ 48 ≤ c.toNat ∧ c.toNat ≤ 57 := by
  unfold isDig
  simp [UInt8.le_iff_toNat_le]
theorem valF_eq : ∀ (l : Bs) (m : Nat), m ≤ 9223372036854775808 → valF l m = if l.all isDig ∧ valN l m ≤ 9223372036854775808 then some (valN l m) else none
  | [], m, h => by simp [valF, valN, h]
  | c :: r, m, h => by
    have ev : valN (c :: r) m = valN r (10 * m + (c.toNat - 48)) := rfl
    rw [ev]
    simp only [valF, List.all_cons, Bool.and_eq_true]
    by_cases hc : isDig c = true
    · by_cases h2 : 10 * m + (c.toNat - 48) ≤ 9223372036854775808
      · rw [if_pos ⟨hc, h2⟩, valF_eq r _ h2]
        simp [hc]
      · rw [if_neg (fun q => h2 q.2), if_neg]
        rintro ⟨_, q⟩
        have := valN_ge r (10 * m + (c.toNat - 48))
        omega
    · rw [if_neg (fun q => hc q.1), if_neg (fun q => hc q.1.1)]
theorem uint_eq : ∀ (l : Bs) (m : Nat), m < 18446744073709551616 → l.all isDig = true → Lib.parseUint10 m l = if valN l m < 18446744073709551616 then .ok (valN l m) else .range
  | [], m, h, _ => by simp [Lib.parseUint10, valN, h]
  | c :: r, m, h, hd => by
    rw [List.all_cons, Bool.and_eq_true] at hd
    have hc := (isDig_iff c).1 hd.1
    have hg := valN_ge r (10 * m + (c.toNat - 48))
    have ev : valN (c :: r) m = valN r (10 * m + (c.toNat - 48)) := rfl
    rw [ev]
    simp only [Lib.parseUint10]
    rw [if_pos hc]
    by_cases h1 : 1844674407370955162 ≤ m
    · rw [if_pos h1, if_neg (by omega)]
    · rw [if_neg h1]
      by_cases h2 : 18446744073709551616 ≤ m * 10 + (c.toNat - 48)
      · rw [if_pos h2, if_neg (by omega)]
      · rw [if_neg h2, Nat.mul_comm m 10, uint_eq r _ (by omega) hd.2]
theorem dec_head (u : Nat) : (Lib.decDigits u).head? = some 48 → u = 0 := by
  induction u using Nat.strongRecOn with
  | ind u ih =>
    intro h
    rw [Lib.decDigits] at h
    split at h
    · rename_i hu
      simp at h
      have key : ∀ u, u < 10 → UInt8.ofNat (48 + u) = 48 → u = 0 := by decide
      exact key u hu (by simpa using h)
    · rename_i hu
      have hne := dec_ne (u / 10)
      obtain ⟨x, t, e⟩ := List.exists_cons_of_ne_nil (show Lib.decDigits (u / 10) ≠ [] by intro e; rw [e] at hne; simp at hne)
      have := ih (u / 10) (by omega) (by rw [e] at h ⊢; exact h)
      omega
theorem byte_of (c : UInt8) (h : isDig c = true) : UInt8.ofNat (48 + (c.toNat - 48)) = c := by
  have := (isDig_iff c).1 h
  have e : 48 + (c.toNat - 48) = c.toNat := by omega
  rw [e]; simp
theorem dec_val : ∀ (n : Nat) (l : Bs), l.length = n → l ≠ [] → l.all isDig = true → (l.head? ≠ some 48 ∨ l = [48]) → Lib.decDigits (valN l 0) = l
  | 0, l, hn, h, _, _ => absurd (List.eq_nil_of_length_eq_zero hn) h
  | n + 1, l, hn, h, hd, h0 => by
    rcases List.eq_nil_or_concat l with rfl | ⟨a, c, rfl⟩
    · exact absurd rfl h
    · rw [List.concat_eq_append] at *
      rw [List.all_append, Bool.and_eq_true] at hd
      have hc : isDig c = true := by simpa using hd.2
      rw [valN_snoc]
      cases a with
      | nil =>
        rw [Lib.decDigits, dif_pos (by have := (isDig_iff c).1 hc; simp [valN]; omega)]
        simp [valN, byte_of c hc]
      | cons x a =>
        have hx : (x :: a).head? ≠ some 48 := by
          rcases h0 with q | q
          · simpa using q
          · simp at q
        have ih := dec_val n (x :: a) (by simpa using hn) (by simp) hd.1 (.inl hx)
        have hpos : 1 ≤ valN (x :: a) 0 := by
          rcases Nat.eq_zero_or_pos (valN (x :: a) 0) with q | q
          · rw [q] at ih
            rw [← ih] at hx
            exact absurd (by decide +kernel) hx
          · exact q
        have hcc := (isDig_iff c).1 hc
        rw [Lib.decDigits, dif_neg (by omega)]
        have e1 : (10 * valN (x :: a) 0 + (c.toNat - 48)) / 10 = valN (x :: a) 0 := by omega
        have e2 : (10 * valN (x :: a) 0 + (c.toNat - 48)) % 10 = c.toNat - 48 := by omega
        rw [e1, e2, ih, byte_of c hc]
abbrev big : Int := 9223372036854775807
theorem parse_neg (d : Bs) : parseL (45 :: d) 0 big = (0, false) ∧ parseB (45 :: d) = (0, false) := by
  have e1 : digitsL (45 :: d) = d := by unfold digitsL Lib.trimPrefix; simp [Lib.hasPrefix, List.isPrefixOf]
  have e2 : isNeg (45 :: d) = true := rfl
  constructor
  · unfold parseL
    rw [e1]
    split
    · rename_i hd
      split
      · rfl
      · rename_i hn
        split
        · rename_i n hat
          have hpos : n < 0 ∨ big < n := by
            unfold Lib.atoiAll at hat
            dsimp only at hat
            rw [if_pos (.inr (by decide))] at hat
            unfold Lib.parseMag at hat
            have hd0 : d ≠ [] := fun e => hn (.inl e)
            rw [if_neg hd0, uint_eq d 0 (by omega) hd] at hat
            split at hat
            · cases hat
            · cases hat
            · rename_i u hu
              have hv : u = valN d 0 := by
                split at hu
                · simpa using hu.symm
                · cases hu
              have hd1 : 1 ≤ valN d 0 := by
                rcases Nat.eq_zero_or_pos (valN d 0) with q | q
                · have := dec_val d.length d rfl hd0 hd (.inl (fun e => hn (.inr ⟨by rw [List.head?_eq_getElem?] at e; exact e, by simp⟩)))
                  rw [q] at this
                  exfalso
                  refine hn (.inr ⟨?_, by simp⟩)
                  rw [← this]; decide +kernel
                · exact q
              rw [if_neg (fun q => q.1 (by decide))] at hat
              split at hat
              · cases hat
              · injection hat with hat
                rw [if_pos (by decide)] at hat
                left; omega
          rw [if_pos hpos]
        · rfl
    · rfl
  · unfold parseB
    rw [e2]
    split
    · rfl
    · rename_i m _
      rw [if_neg (by simp)]
      simp only [if_true]
      rw [if_pos]
      by_cases hm : m = 0
      · subst hm
        left
        show Lib.itoa 0 ≠ _
        have : Lib.itoa 0 = [48] := by decide +kernel
        rw [this]; simp
      · right; omega
theorem parse_eq (s : Bs) : parseB s = parseL s 0 big := by
  by_cases h : ∃ d, s = 45 :: d
  · obtain ⟨d, rfl⟩ := h
    rw [(parse_neg d).1, (parse_neg d).2]
  · have hneg : isNeg s = false := by
      cases s with
      | nil => rfl
      | cons c d =>
        by_cases hc : c = 45
        · exact absurd ⟨d, by rw [hc]⟩ h
        · simp [isNeg, hc]
    have e1 : digitsL s = s := by
      unfold digitsL Lib.trimPrefix
      rw [if_neg]
      intro q
      cases s with
      | nil => simp [Lib.hasPrefix, List.isPrefixOf] at q
      | cons c d => simp [Lib.hasPrefix, List.isPrefixOf] at q; exact h ⟨d, by rw [← q]⟩
    have e2 : signB s = s := by unfold signB; rw [hneg]; rfl
    have hB : parseB s = match (if s.all isDig ∧ valN s 0 ≤ 9223372036854775808 then some (valN s 0) else none) with
        | none => (0, false)
        | some m => if m = 9223372036854775808 then (0, false) else if Lib.itoa (m : Int) ≠ s then (0, false) else ((m : Int), true) := by
      unfold parseB
      rw [e2, hneg, valF_eq s 0 (by omega)]
      cases (if s.all isDig ∧ valN s 0 ≤ 9223372036854775808 then some (valN s 0) else none) with
      | none => rfl
      | some m =>
        dsimp only
        by_cases h1 : m = 9223372036854775808
        · rw [if_pos ⟨rfl, h1⟩, if_pos h1]
        · rw [if_neg (fun q => h1 q.2), if_neg h1]
          simp only [Bool.false_eq_true, if_false]
          by_cases h2 : Lib.itoa (m : Int) ≠ s
          · rw [if_pos (.inl h2), if_pos h2]
          · rw [if_neg (by rintro (q | q); exact h2 q; omega), if_neg h2]
    have hL : parseL s 0 big = if s.all isDig then (if s = [] ∨ (s[0]? = some 48 ∧ s ≠ [48]) then (0, false) else match Lib.atoiAll s with | .ok n => if n < 0 ∨ big < n then (0, false) else (n, true) | _ => (0, false)) else (0, false) := by
      unfold parseL
      rw [e1]
      rfl
    rw [hB, hL]
    by_cases hd : s.all isDig = true
    · rw [if_pos hd]
      by_cases hs : s = []
      · subst hs
        decide +kernel
      · have hlt2 : valN s 0 ≤ 9223372036854775808 ∨ ¬ valN s 0 ≤ 9223372036854775808 := Classical.em _
        by_cases hz : s[0]? = some 48 ∧ s ≠ [48]
        · rw [if_pos (Or.inr hz : s = [] ∨ _)]
          rcases hlt2 with q | q
          · rw [if_pos ⟨hd, q⟩]
            dsimp only
            split
            · rfl
            · rw [if_pos]
              intro q
              rw [Lib.itoa_nonneg] at q
              have h1 := dec_head (valN s 0) (by rw [q, List.head?_eq_getElem?]; exact hz.1)
              rw [h1] at q
              have : Lib.decDigits 0 = [48] := by decide +kernel
              rw [this] at q
              exact hz.2 q.symm
          · rw [if_neg (fun p => q p.2)]
        · rw [if_neg (fun q : s = [] ∨ _ => q.elim hs hz)]
          have hv := dec_val s.length s rfl hs hd (by
            by_cases q : s.head? = some 48
            · right
              apply Classical.byContradiction
              intro q2
              exact hz ⟨by rw [← List.head?_eq_getElem?]; exact q, q2⟩
            · exact .inl q)
          have ha : Lib.atoiAll s = if valN s 0 < 9223372036854775808 then .ok (valN s 0 : Int) else .range := by
            cases s with
            | nil => exact absurd rfl hs
            | cons c d =>
              rw [List.all_cons, Bool.and_eq_true] at hd
              have hc := (isDig_iff c).1 hd.1
              unfold Lib.atoiAll
              dsimp only
              rw [if_neg (by omega)]
              unfold Lib.parseMag
              rw [if_neg hs, uint_eq _ 0 (by omega) (by rw [List.all_cons, hd.1, hd.2]; rfl)]
              generalize valN (c :: d) 0 = v
              by_cases h1 : v < 18446744073709551616
              · rw [if_pos h1]
                dsimp only
                by_cases h2 : v < 9223372036854775808
                · rw [if_pos h2, if_neg (by omega), if_neg (by omega), if_neg (by omega)]
                · rw [if_neg h2, if_pos (by omega)]
              · rw [if_neg h1, if_neg (by omega)]
          rw [ha]
          by_cases hlt : valN s 0 < 9223372036854775808
          · rw [if_pos (⟨hd, by omega⟩ : s.all isDig = true ∧ valN s 0 ≤ 9223372036854775808), if_pos hlt]
            dsimp only
            rw [if_neg (by omega), Lib.itoa_nonneg, hv, if_neg (by simp), if_neg (by unfold big; omega)]
          · rw [if_neg hlt]
            by_cases heq : valN s 0 = 9223372036854775808
            · rw [if_pos (⟨hd, by omega⟩ : s.all isDig = true ∧ valN s 0 ≤ 9223372036854775808)]
              dsimp only
              rw [if_pos heq]
            · rw [if_neg (fun q : s.all isDig = true ∧ valN s 0 ≤ 9223372036854775808 => heq (by omega))]
    · rw [if_neg hd, if_neg (fun q : s.all isDig = true ∧ valN s 0 ≤ 9223372036854775808 => hd q.1)]
theorem parse_great (v : Bs) : parseL (greatL v) 0 big = parseL v 0 big := by
  have key : ∀ u : Bs, (parseL u 0 big).2 = true → u.all isDig = true := by
    intro u hu
    by_cases h : ∃ d, u = 45 :: d
    · obtain ⟨d, rfl⟩ := h
      rw [(parse_neg d).1] at hu; cases hu
    · have e1 : digitsL u = u := by
        unfold digitsL Lib.trimPrefix
        rw [if_neg]
        intro q
        cases u with
        | nil => simp [Lib.hasPrefix, List.isPrefixOf] at q
        | cons c d => simp [Lib.hasPrefix, List.isPrefixOf] at q; exact h ⟨d, by rw [← q]⟩
      unfold parseL at hu
      rw [e1] at hu
      split at hu
      · assumption
      · cases hu
  have up_id : ∀ c : UInt8, isDig c = true → upB c = c := by
    intro c hc
    have := (isDig_iff c).1 hc
    unfold upB
    rw [if_neg]
    rintro ⟨q, _⟩
    have := UInt8.le_iff_toNat_le.1 q
    simp at this
    omega
  have up_dig : ∀ c : UInt8, isDig (upB c) = true → upB c = c := by
    intro c hc
    have h1 := (isDig_iff _).1 hc
    unfold upB at h1 ⊢
    split at h1
    · rename_i h2
      have a1 := UInt8.le_iff_toNat_le.1 h2.1
      have a2 := UInt8.le_iff_toNat_le.1 h2.2
      simp at a1 a2
      have : (c - 32).toNat = c.toNat - 32 := by
        rw [UInt8.toNat_sub_of_le _ _ (UInt8.le_iff_toNat_le.2 (by simp; omega))]; rfl
      omega
    · rename_i h2; rw [if_neg h2]
  have fix : ∀ u : Bs, u.all isDig = true → upL u = u := by
    intro u hu
    unfold upL
    rw [show u = u.map id from (List.map_id u).symm, List.map_map]
    apply List.map_congr_left
    intro c hc
    exact up_id c (List.all_eq_true.1 hu c hc)
  have asc : ∀ u : Bs, u.all isDig = true → Asc u := fun u hu x hx => by
    have := (isDig_iff x).1 (List.all_eq_true.1 hu x hx); omega
  have back : (greatL v).all isDig = true → greatL v = v := by
    intro h
    have h2 := (great_iff _ v (asc _ h)).1 rfl
    have : upL v = v := by
      unfold upL
      conv => rhs; rw [← List.map_id v]
      apply List.map_congr_left
      intro c hc
      refine up_dig c ?_
      rw [← h2] at h
      exact List.all_eq_true.1 h (upB c) (List.mem_map_of_mem hc)
    rw [← h2, this]
  have none : ∀ u : Bs, (parseL u 0 big).2 = false → parseL u 0 big = (0, false) := by
    intro u hu
    unfold parseL at hu ⊢
    repeat' split
    all_goals simp_all
  cases h1 : (parseL (greatL v) 0 big).2
  · cases h2 : (parseL v 0 big).2
    · rw [none _ h1, none _ h2]
    · have h3 := key v h2
      rw [(great_iff v v (asc v h3)).2 (fix v h3)]
  · rw [back (key _ h1)]
end Go.Proofs.YtapanjfheddfnaaGreatDoor
end
section
/- The options of MAIL, the commands and the feed as the reference does them, and that the program does the same. No program here. -/
namespace Go.Proofs.YtapanjfheddfnaaGreatDoor

def sizeE : Bs := [83, 73, 90, 69, 61]
def bodyK : Bs := [66, 79, 68, 89]
def body7 : Bs := [66, 79, 68, 89, 61, 55, 66, 73, 84]
def body8 : Bs := [66, 79, 68, 89, 61, 56, 66, 73, 84, 77, 73, 77, 69]
theorem asc_of {b : Bs} (h : b.all (fun x => decide (x.toNat < 128)) = true) : Asc b := fun x hx => by simpa using List.all_eq_true.1 h x hx

def givF : Nat → Bs → Int → Nat → Nat → Option Int
  | 0, _, _, _, _ => none
  | n + 1, s, z, a, b =>
    if s = [] then (if a ≤ 1 ∧ b ≤ 1 then some z else none) else
    if nb (s.headD 0) then none else
    if (behindB ((Lib.trimS s blanks).takeWhile nb) sizeE).2 then
      (if (parseB (behindB ((Lib.trimS s blanks).takeWhile nb) sizeE).1).2 then givF n ((Lib.trimS s blanks).dropWhile nb) (parseB (behindB ((Lib.trimS s blanks).takeWhile nb) sizeE).1).1 (a + 1) b else none)
    else if upL ((Lib.trimS s blanks).takeWhile nb) = body7 ∨ upL ((Lib.trimS s blanks).takeWhile nb) = body8 then givF n ((Lib.trimS s blanks).dropWhile nb) z a (b + 1) else none

theorem giv_dup : ∀ (n : Nat) (s : Bs) (z : Int) (a b : Nat), ¬ (a ≤ 1 ∧ b ≤ 1) → givF n s z a b = none
  | 0, _, _, _, _, _ => rfl
  | n + 1, s, z, a, b, h => by
    unfold givF
    rw [if_neg h]
    repeat' split
    all_goals first | rfl | exact giv_dup n _ _ _ _ (by omega)

theorem opt_size (p : Bs) (h : (behindB p sizeE).2 = true) :
    (Lib.cut (greatL p) [61]).1 = sizeB ∧ parseL (Lib.cut (greatL p) [61]).2.1 0 big = parseB (behindB p sizeE).1 ∧ p ≠ [] := by
  unfold behindB at h ⊢
  split at h
  · cases h
  · rename_i hl
    split at h
    · rename_i hu
      rw [if_neg hl, if_pos hu]
      have e : greatL p = sizeE ++ greatL (p.drop sizeE.length) := (great_split sizeE p _ (asc_of (by decide))).2 ⟨_, _, (List.take_append_drop _ p).symm, hu, rfl⟩
      have e2 : greatL p = sizeB ++ 61 :: greatL (p.drop sizeE.length) := by rw [e]; rfl
      rw [e2, cut_byte 61 sizeB _ (by decide)]
      refine ⟨rfl, ?_, ?_⟩
      · rw [parse_eq]; exact parse_great _
      · rintro rfl; exact hl (by decide)
    · cases h
theorem opt_other (p : Bs) (h : (behindB p sizeE).2 = false) : ¬ ((Lib.cut (greatL p) [61]).1 = sizeB ∧ (parseL (Lib.cut (greatL p) [61]).2.1 0 big).2 = true) := by
  rintro ⟨h1, h2⟩
  by_cases hm : (61 : UInt8) ∈ greatL p
  · obtain ⟨a, r, e, ha⟩ := List.eq_append_cons_of_mem hm
    rw [e, cut_byte 61 a r (fun x hx q => ha (q ▸ hx))] at h1
    dsimp only at h1
    subst h1
    have e2 : greatL p = sizeE ++ r := by rw [e]; rfl
    obtain ⟨q, v, rfl, hq, _⟩ := (great_split sizeE p r (asc_of (by decide))).1 e2
    have hl : q.length = 5 := by
      have := congrArg List.length hq
      simp only [upL, List.length_map] at this
      exact this
    have : (behindB (q ++ v) sizeE).2 = true := by
      unfold behindB
      rw [if_neg (by simp [sizeE]; omega), if_pos]
      rw [show sizeE.length = q.length by rw [hl]; rfl, List.take_left]
      exact hq
    rw [this] at h; cases h
  · rw [cut_none 61 _ (fun x hx q => hm (q ▸ hx))] at h2
    have h3 : (parseL [] 0 big).2 = true := h2
    exact absurd h3 (by decide +kernel)
theorem opt_body (p : Bs) : (greatL p = body7 ↔ upL p = body7) ∧ (greatL p = body8 ↔ upL p = body8) := ⟨great_iff _ _ (asc_of (by decide)), great_iff _ _ (asc_of (by decide))⟩

theorem trim_len (l : Bs) : (Lib.trimS l blanks).length ≤ l.length := trimS_le l blanks
theorem take_drop_len (q : UInt8 → Bool) (l : Bs) : (l.takeWhile q).length + (l.dropWhile q).length = l.length := by
  rw [← List.length_append, List.takeWhile_append_dropWhile]
theorem trim_idem {l : Bs} : Lib.trimS (Lib.trimS l blanks) blanks = Lib.trimS l blanks := by
  rw [trim_rt (rt_trim l)]
  unfold Lib.trimS Lib.trimLeftS
  induction (Lib.trimRightS l blanks) with
  | nil => rfl
  | cons c t ih =>
    rw [List.dropWhile_cons]
    split
    · exact ih
    · rename_i h; rw [List.dropWhile_cons, if_neg h]
theorem dropWhile_nil (q : UInt8 → Bool) : ∀ l : Bs, l.dropWhile q = [] → ∀ x ∈ l, q x = true
  | [], _, x, hx => by cases hx
  | c :: l, h, x, hx => by
    rw [List.dropWhile_cons] at h
    split at h
    · rename_i hc
      rcases List.mem_cons.1 hx with rfl | hx
      · exact hc
      · exact dropWhile_nil q l h x hx
    · cases h
theorem trim_empty {l : Bs} (h : RT l) : Lib.trimS l blanks = [] ↔ l = [] := by
  rw [trim_rt h]
  constructor
  · intro e
    rcases List.eq_nil_or_concat l with rfl | ⟨a, x, rfl⟩
    · rfl
    · rw [List.concat_eq_append] at h e
      have hx := h x (by simp)
      unfold Lib.trimLeftS at e
      have hd := dropWhile_nil _ _ e x (by simp)
      rw [hx] at hd; cases hd
  · rintro rfl; rfl

theorem givF_go (n : Nat) (s : Bs) (z : Int) (a b : Nat) (h0 : s ≠ []) (hh : nb (s.headD 0) = false) : givF (n + 1) s z a b =
    if (behindB ((Lib.trimS s blanks).takeWhile nb) sizeE).2 then
      (if (parseB (behindB ((Lib.trimS s blanks).takeWhile nb) sizeE).1).2 then givF n ((Lib.trimS s blanks).dropWhile nb) (parseB (behindB ((Lib.trimS s blanks).takeWhile nb) sizeE).1).1 (a + 1) b else none)
    else if upL ((Lib.trimS s blanks).takeWhile nb) = body7 ∨ upL ((Lib.trimS s blanks).takeWhile nb) = body8 then givF n ((Lib.trimS s blanks).dropWhile nb) z a (b + 1) else none := by
  rw [givF, if_neg h0, if_neg (show ¬ nb (s.headD 0) = true by rw [hh]; simp)]
theorem optF_go (n : Nat) (r : Bs) (z : Int) (given : List Bs) (p q : Bs) (h0 : r ≠ []) (hw : wordL r = (p, q)) (bad : Bool) (hb : (given.contains (Lib.cut (greatL p) [61]).1 || !optOk (greatL p)) = bad) : optF (n + 1) r z given =
    if bad then none else optF n q (if (Lib.cut (greatL p) [61]).1 = sizeB then (parseL (Lib.cut (greatL p) [61]).2.1 0 big).1 else z) (given ++ [(Lib.cut (greatL p) [61]).1]) := by
  rw [optF, if_neg h0, hw, ← hb]
theorem has_snoc (l : List Bs) (k x : Bs) : (l ++ [k]).contains x = (l.contains x || x == k) := by
  rw [List.contains_eq_any_beq, List.contains_eq_any_beq, List.any_append]
  simp

theorem opt_giv : ∀ (n : Nat) (r : Bs) (z : Int) (given : List Bs) (m : Nat) (s : Bs) (a b : Nat), r.length ≤ n → s.length < m → Lib.trimS r blanks = Lib.trimS s blanks → (r = [] ↔ s = []) → (s ≠ [] → nb (s.headD 0) = false) →
    a = (if given.contains sizeB then 1 else 0) → b = (if given.contains bodyK then 1 else 0) → optF n r z given = givF m s z a b := by
  intro n
  induction n with
  | zero =>
    intro r z given m s a b hr hm ht he hh ha hb
    have hr0 : r = [] := List.eq_nil_of_length_eq_zero (by omega)
    have hs0 := he.1 hr0
    obtain ⟨m, rfl⟩ : ∃ k, m = k + 1 := ⟨m - 1, by omega⟩
    subst hs0
    have ha1 : a ≤ 1 := by rw [ha]; split <;> omega
    have hb1 : b ≤ 1 := by rw [hb]; split <;> omega
    rw [givF, if_pos rfl, if_pos ⟨ha1, hb1⟩]
    rfl
  | succ n ih =>
    intro r z given m s a b hr hm ht he hh ha hb
    obtain ⟨m, rfl⟩ : ∃ k, m = k + 1 := ⟨m - 1, by omega⟩
    have ha1 : a ≤ 1 := by rw [ha]; split <;> omega
    have hb1 : b ≤ 1 := by rw [hb]; split <;> omega
    by_cases hr0 : r = []
    · have hs0 := he.1 hr0
      rw [givF, if_pos hs0, if_pos ⟨ha1, hb1⟩, optF, if_pos hr0]
    · have hs0 : s ≠ [] := fun e => hr0 (he.2 e)
      have hw : wordL r = ((Lib.trimS s blanks).takeWhile nb, Lib.trimS ((Lib.trimS s blanks).dropWhile nb) blanks) := by rw [word_eq, ht]
      rw [givF_go m s z a b hs0 (hh hs0)]
      have hl1 := trim_len s
      have hl2 := trim_len r
      rw [ht] at hl2
      have hl3 := take_drop_len nb (Lib.trimS s blanks)
      have hl4 := trim_len ((Lib.trimS s blanks).dropWhile nb)
      have hrt := rt_dropWhile (rt_trim s) nb
      have hhd : (Lib.trimS s blanks).dropWhile nb ≠ [] → nb (((Lib.trimS s blanks).dropWhile nb).headD 0) = false := by
        intro q
        obtain ⟨x, t, e⟩ := List.exists_cons_of_ne_nil q
        have := dropWhile_head nb (Lib.trimS s blanks) x (by rw [e]; rfl)
        rw [e]; exact this
      generalize (Lib.trimS s blanks).takeWhile nb = p at *
      generalize (Lib.trimS s blanks).dropWhile nb = s2 at *
      have next : ∀ (z' : Int) (given' : List Bs) (a' b' : Nat), p ≠ [] → a' = (if given'.contains sizeB then 1 else 0) → b' = (if given'.contains bodyK then 1 else 0) → optF n (Lib.trimS s2 blanks) z' given' = givF m s2 z' a' b' := by
        intro z' given' a' b' hp q1 q2
        have hp1 := List.length_pos_iff.2 hp
        exact ih _ z' given' m s2 a' b' (by omega) (by omega) trim_idem (trim_empty hrt) hhd q1 q2
      cases hz : (behindB p sizeE).2
      · have hno := opt_other p hz
        rw [if_neg (show ¬ false = true by simp)]
        by_cases hbody : upL p = body7 ∨ upL p = body8
        · have hgr : greatL p = body7 ∨ greatL p = body8 := hbody.imp (opt_body p).1.2 (opt_body p).2.2
          have hk : (Lib.cut (greatL p) [61]).1 = bodyK := by
            rcases hgr with e | e <;> rw [e] <;> decide +kernel
          have hok : optOk (greatL p) = true := by
            unfold optOk
            rcases hgr with e | e <;> rw [e] <;> decide +kernel
          have hp : p ≠ [] := by
            rintro rfl
            rcases hbody with e | e <;> cases e
          rw [if_pos hbody, optF_go n r z given p _ hr0 hw (given.contains bodyK) (by rw [hk, hok]; simp), hk]
          cases hc : given.contains bodyK
          · rw [if_neg (show ¬ false = true by simp), if_neg (show ¬ bodyK = sizeB by decide)]
            refine next z (given ++ [bodyK]) a (b + 1) hp ?_ ?_
            · rw [ha, has_snoc]
              have : (sizeB == bodyK) = false := by decide
              rw [this, Bool.or_false]
            · rw [hb, hc, has_snoc, hc]
              simp
          · rw [if_pos rfl, giv_dup _ _ _ _ _ (by rw [hb, if_pos hc]; omega)]
        · have hbad : optOk (greatL p) = false := by
            unfold optOk
            have h1 : ¬ greatL p = body7 := fun e => hbody (.inl ((opt_body p).1.1 e))
            have h2 : ¬ greatL p = body8 := fun e => hbody (.inr ((opt_body p).2.1 e))
            rw [Bool.or_eq_false_iff, Bool.or_eq_false_iff]
            refine ⟨⟨?_, beq_eq_false_iff_ne.2 h1⟩, beq_eq_false_iff_ne.2 h2⟩
            rw [Bool.eq_false_iff]
            intro q
            rw [Bool.and_eq_true] at q
            exact hno ⟨by simpa using q.1, q.2⟩
          rw [if_neg hbody, optF_go n r z given p _ hr0 hw true (by rw [hbad]; simp)]
          rfl
      · obtain ⟨hk, hv, hp⟩ := opt_size p hz
        have hv' : parseL (Lib.cut (greatL p) [61]).2.1 0 9223372036854775807 = parseB (behindB p sizeE).1 := hv
        rw [if_pos (show true = true from rfl)]
        cases hq : (parseB (behindB p sizeE).1).2
        · have hbad : optOk (greatL p) = false := by
            unfold optOk
            rw [hk, hv', hq]
            have h1 : ¬ greatL p = body7 := by intro e; rw [e] at hk; revert hk; decide +kernel
            have h2 : ¬ greatL p = body8 := by intro e; rw [e] at hk; revert hk; decide +kernel
            rw [Bool.or_eq_false_iff, Bool.or_eq_false_iff]
            exact ⟨⟨by simp, beq_eq_false_iff_ne.2 h1⟩, beq_eq_false_iff_ne.2 h2⟩
          rw [if_neg (show ¬ false = true by simp), optF_go n r z given p _ hr0 hw true (by rw [hbad]; simp)]
          rfl
        · have hok : optOk (greatL p) = true := by
            unfold optOk
            rw [hk, hv', hq]; simp
          rw [if_pos (show true = true from rfl), optF_go n r z given p _ hr0 hw (given.contains sizeB) (by rw [hk, hok]; simp), hk, hv]
          cases hc : given.contains sizeB
          · rw [if_neg (show ¬ false = true by simp), if_pos (show sizeB = sizeB from rfl)]
            refine next _ (given ++ [sizeB]) (a + 1) b hp ?_ ?_
            · rw [ha, hc, has_snoc, hc]
              simp
            · rw [hb, has_snoc]
              have : (bodyK == sizeB) = false := by decide
              rw [this, Bool.or_false]
          · rw [if_pos rfl, giv_dup _ _ _ _ _ (by rw [ha, if_pos hc]; omega)]

theorem any_one (x : UInt8) : Lib.containsAny [x] blanks = blanks.contains x := by
  unfold Lib.containsAny
  cases h : blanks.contains x
  · have : Lib.indexAny [x] blanks = -1 := by
      have e : Lib.indexAny [x] blanks = if blanks.contains x then 0 else if Lib.indexAny [] blanks == -1 then -1 else Lib.indexAny [] blanks + 1 := rfl
      rw [e, h]; rfl
    rw [this]; rfl
  · have : Lib.indexAny [x] blanks = 0 := by
      have e : Lib.indexAny [x] blanks = if blanks.contains x then 0 else if Lib.indexAny [] blanks == -1 then -1 else Lib.indexAny [] blanks + 1 := rfl
      rw [e, h]; rfl
    rw [this]; rfl
/-- The options, behind a path. -/
def givB (y : Bs) : Option Int := givF (y.length + 1) y 0 0 0
theorem giv_eq (y : Bs) : givB y = if y ≠ [] ∧ Lib.containsAny (y.take 1) blanks = false then none else optL y := by
  by_cases h : y ≠ [] ∧ Lib.containsAny (y.take 1) blanks = false
  · rw [if_pos h]
    obtain ⟨x, t, rfl⟩ := List.exists_cons_of_ne_nil h.1
    have h2 : Lib.containsAny [x] blanks = false := h.2
    rw [any_one] at h2
    unfold givB
    rw [givF, if_neg h.1, if_pos]
    show nb x = true
    unfold nb
    rw [h2]; rfl
  · rw [if_neg h]
    unfold givB optL
    refine (opt_giv y.length y 0 [] (y.length + 1) y 0 0 (Nat.le_refl _) (by omega) rfl Iff.rfl (fun hy => ?_) (by simp) (by simp)).symm
    obtain ⟨x, t, rfl⟩ := List.exists_cons_of_ne_nil hy
    have h2 : ¬ Lib.containsAny [x] blanks = false := fun q => h ⟨hy, q⟩
    rw [any_one] at h2
    show nb x = false
    unfold nb
    cases hc : blanks.contains x
    · exact absurd hc h2
    · rfl
/-- MAIL, as the reference does it. -/
def mailQ (s : Sess) (a : Bs) : Option Int → Bs × Sess
  | none => (replyL 501, s)
  | some z => if a ≠ [] ∧ mayB a = false then (replyL 501, s) else if (s.most : Int) < z then (replyL 552, s) else (replyL 250, { s with sender := some a })
def mailO (s : Sess) : Option (Bs × Bs) → Bs × Sess
  | none => (replyL 501, s)
  | some (a, y) => mailQ s a (givB y)
def mailR (s : Sess) (rest : Bs) : Bs × Sess := if s.greeted = false ∨ s.sender ≠ none then (replyL 503, s) else mailO s (pathR rest [70, 82, 79, 77, 58])
theorem mail_eq (s : Sess) (rest : Bs) (h : RT rest) : mailR s rest = mailS s rest := by
  unfold mailR mailS
  rw [path_eq rest _ (asc_of (by decide)) h]
  have key : ∀ p, mailO s p = mailP s p := by
    intro p
    cases p with
    | none => rfl
    | some p =>
      obtain ⟨a, y⟩ := p
      show mailQ s a (givB y) = mailP s (some (a, y))
      rw [giv_eq]
      have hP : mailP s (some (a, y)) = if (a ≠ [] ∧ mayL a = false) ∨ (y ≠ [] ∧ Lib.containsAny (y.take 1) blanks = false) then (replyL 501, s) else
        match optL y with
        | none => (replyL 501, s)
        | some z => if (s.most : Int) < z then (replyL 552, s) else (replyL 250, { s with sender := some a }) := rfl
      rw [hP]
      have hQ : ∀ z, mailQ s a (some z) = if a ≠ [] ∧ mayL a = false then (replyL 501, s) else if (s.most : Int) < z then (replyL 552, s) else (replyL 250, { s with sender := some a }) := by
        intro z; unfold mailQ; rw [may_eq]
      by_cases h2 : y ≠ [] ∧ Lib.containsAny (y.take 1) blanks = false
      · rw [if_pos h2, if_pos (show (a ≠ [] ∧ mayL a = false) ∨ (y ≠ [] ∧ Lib.containsAny (y.take 1) blanks = false) from .inr h2)]
        rfl
      · rw [if_neg h2]
        by_cases h1 : a ≠ [] ∧ mayL a = false
        · rw [if_pos (show (a ≠ [] ∧ mayL a = false) ∨ (y ≠ [] ∧ Lib.containsAny (y.take 1) blanks = false) from .inl h1)]
          cases optL y with
          | none => rfl
          | some z => rw [hQ, if_pos h1]
        · rw [if_neg (show ¬ ((a ≠ [] ∧ mayL a = false) ∨ (y ≠ [] ∧ Lib.containsAny (y.take 1) blanks = false)) from fun q => q.elim h1 h2)]
          cases optL y with
          | none => rfl
          | some z => rw [hQ, if_neg h1]
  rw [key]
def rcptR (s : Sess) (rest : Bs) : Bs × Sess :=
  if s.sender = none then (replyL 503, s) else
  match pathR rest [84, 79, 58] with
  | none => (replyL 501, s)
  | some (a, y) =>
    if y ≠ [] ∨ mayB a = false then (replyL 501, s) else
    if s.rcp.contains a then (replyL 250, s) else
    if 16 ≤ s.rcp.length then (replyL 452, s) else (replyL 250, { s with rcp := s.rcp ++ [a] })
theorem rcpt_eq (s : Sess) (rest : Bs) (h : RT rest) : rcptR s rest = rcptS s rest := by
  unfold rcptR rcptS
  rw [path_eq rest _ (asc_of (by decide)) h]
  cases pathL rest [84, 79, 58] with
  | none => rfl
  | some p =>
    obtain ⟨a, y⟩ := p
    unfold rcptP
    dsimp only
    rw [may_eq]
/-- A verb in the bytes' own upper case. -/
theorem do_up (s : Sess) (v rest : Bs) : doS s (greatL v) rest = doS s (upL v) rest := by
  have k : ∀ b : Bs, Asc b → (greatL v = b ↔ upL v = b) := fun b hb => great_iff b v hb
  unfold doS
  simp only [k _ (asc_of (b := [69, 72, 76, 79]) (by decide)), k _ (asc_of (b := [72, 69, 76, 79]) (by decide)), k _ (asc_of (b := [77, 65, 73, 76]) (by decide)), k _ (asc_of (b := [82, 67, 80, 84]) (by decide)),
    k _ (asc_of (b := [68, 65, 84, 65]) (by decide)), k _ (asc_of (b := [82, 83, 69, 84]) (by decide)), k _ (asc_of (b := [81, 85, 73, 84]) (by decide)), k _ (asc_of (b := [78, 79, 79, 80]) (by decide)), k _ (asc_of (b := [86, 82, 70, 89]) (by decide))]
/-- A command line, as the reference does it. -/
def commandR (s : Sess) (line : Bs) : Bs × Sess :=
  if Lib.hasSuffix line [10] then doS s (upL ((Lib.trimS (bareL line) blanks).takeWhile nb)) (Lib.trimS ((Lib.trimS (bareL line) blanks).dropWhile nb) blanks) else (replyL 500, s)
theorem command_eq (s : Sess) (line : Bs) : commandR s line = commandS s line := by
  unfold commandR commandS
  rw [word_eq]
  dsimp only
  rw [do_up]

/-! ### the first blank -/
theorem cut_app (c p q : Bs) (h : c = p ++ q) : c.take p.length = p ∧ c.drop p.length = q := by subst h; simp
theorem app_get (c p q : Bs) (h : c = p ++ q) (i : Nat) (hi : i < p.length) : c[i]? = some p[i] := by
  subst h; rw [List.getElem?_append_left hi, List.getElem?_eq_getElem hi]
theorem app_get2 (c p q : Bs) (x : UInt8) (h : c = p ++ x :: q) : c[p.length]? = some x := by
  subst h; rw [List.getElem?_append_right (Nat.le_refl _), Nat.sub_self]; rfl
theorem nb_bl {x : UInt8} {v : Bool} (h : nb x = v) : blanks.contains x = !v := by
  unfold nb at h
  rw [← h, Bool.not_not]
theorem nb_at (c : Bs) (i : Nat) (h : i < (c.takeWhile nb).length) : ∃ x, c[i]? = some x ∧ blanks.contains x = false :=
  ⟨(c.takeWhile nb)[i], app_get c _ (c.dropWhile nb) List.takeWhile_append_dropWhile.symm i h, nb_bl (List.all_eq_true.1 (List.all_takeWhile (p := nb) (l := c)) _ (List.getElem_mem h))⟩
theorem nb_end (c : Bs) (h : (c.takeWhile nb).length < c.length) : ∃ x, c[(c.takeWhile nb).length]? = some x ∧ blanks.contains x = true := by
  have hlen := take_drop_len nb c
  have hd : c.dropWhile nb ≠ [] := by intro e; rw [e] at hlen; simp at hlen; omega
  obtain ⟨x, q, e⟩ := List.exists_cons_of_ne_nil hd
  exact ⟨x, app_get2 c _ q x (by rw [← e]; exact List.takeWhile_append_dropWhile.symm), nb_bl (dropWhile_head nb c x (by rw [e]; rfl))⟩
theorem nb_cut (c : Bs) : c.take (c.takeWhile nb).length = c.takeWhile nb ∧ c.drop (c.takeWhile nb).length = c.dropWhile nb := cut_app c _ _ List.takeWhile_append_dropWhile.symm

/-! ### the feed -/
def foldR (st : Bs × List Bs) (x : Bs) : Bs × List Bs := if Lib.hasSuffix x [10] then (st.1, st.2 ++ [x.take 1000]) else (x, st.2)
def pushR (L chunk : Bs) : Bs × List Bs := (linesL (L ++ chunk)).foldl foldR ([], [])
theorem lines_ends : ∀ (n : Nat) (s : Bs), s.length ≤ n → ∀ x ∈ (linesL s).dropLast, Lib.hasSuffix x [10] = true
  | 0, s, h => by
    have : s = [] := List.eq_nil_of_length_eq_zero (by omega)
    subst this
    intro x hx; cases hx
  | n + 1, s, h => by
    intro x hx
    by_cases h0 : s = []
    · subst h0; cases hx
    · cases hc : (Lib.cut s [10]).2.2
      · rw [linesL_last s h0 hc] at hx; cases hx
      · rw [linesL_ends s h0 hc] at hx
        have hlt := cut_rest_lt s hc
        cases hr : linesL (Lib.cut s [10]).2.1 with
        | nil => rw [hr] at hx; cases hx
        | cons y ys =>
          rw [hr] at hx
          have e : (((Lib.cut s [10]).1 ++ [10]) :: y :: ys).dropLast = ((Lib.cut s [10]).1 ++ [10]) :: (y :: ys).dropLast := rfl
          rw [e] at hx
          rcases List.mem_cons.1 hx with rfl | hx
          · exact (suffix10 _ 10)
          · rw [← hr] at hx
            exact lines_ends n _ (by omega) x hx
theorem step_fold (x : Bs) (o : List Bs) : stepL ([], o) x = (((foldR ([], o) x).1).take 1000, (foldR ([], o) x).2) ∧ (Lib.hasSuffix x [10] = true → (foldR ([], o) x).1 = []) := by
  unfold stepL foldR
  have e : x.take (min x.length 1000) = x.take 1000 := by
    rcases Nat.le_total x.length 1000 with q | q
    · rw [Nat.min_eq_left q, List.take_of_length_le (Nat.le_refl _), List.take_of_length_le q]
    · rw [Nat.min_eq_right q]
  simp only [List.length_nil, Nat.sub_zero, List.nil_append, e]
  split
  · exact ⟨rfl, fun _ => rfl⟩
  · rename_i h; exact ⟨rfl, fun q => absurd q h⟩
theorem fold_step : ∀ (ls : List Bs) (o : List Bs), (∀ x ∈ ls.dropLast, Lib.hasSuffix x [10] = true) → ls.foldl stepL ([], o) = ((ls.foldl foldR ([], o)).1.take 1000, (ls.foldl foldR ([], o)).2)
  | [], o, _ => rfl
  | [x], o, _ => (step_fold x o).1
  | x :: y :: ls, o, h => by
    have hx := h x (by simp)
    obtain ⟨e1, e2⟩ := step_fold x o
    have e3 := e2 hx
    obtain ⟨q, hq⟩ : ∃ q, (foldR ([], o) x).2 = q := ⟨_, rfl⟩
    have e4 : foldR ([], o) x = ([], q) := Prod.ext e3 hq
    have e5 : stepL ([], o) x = ([], q) := by rw [e1, e4]; rfl
    have ih := fold_step (y :: ls) q (fun z hz => h z (by rw [List.dropLast_cons_of_ne_nil (by simp)]; exact List.mem_cons_of_mem _ hz))
    show (y :: ls).foldl stepL (stepL ([], o) x) = (((y :: ls).foldl foldR (foldR ([], o) x)).1.take 1000, ((y :: ls).foldl foldR (foldR ([], o) x)).2)
    rw [e4, e5]
    exact ih
theorem push_none (L : Bs) (h : ∀ c ∈ L, c ≠ 10) : pushL [] L = (L.take 1000, []) := by
  by_cases h0 : L = []
  · subst h0; rfl
  · have hc : (Lib.cut L [10]).2.2 = false := by rw [cut_none 10 L h]
    unfold pushL
    rw [linesL_last L h0 hc]
    have hs : Lib.hasSuffix L [10] = false := by
      rcases List.eq_nil_or_concat L with rfl | ⟨a, c, rfl⟩
      · exact absurd rfl h0
      · rw [List.concat_eq_append, suffix10]
        have := h c (by simp)
        simpa using this
    have e := (step_fold L []).1
    have hf : foldR ([], []) L = (L, []) := by unfold foldR; rw [hs]; rfl
    rw [hf] at e
    exact e
theorem push_eq (L chunk : Bs) (h : ∀ c ∈ L, c ≠ 10) : pushL (L.take 1000) chunk = ((pushR L chunk).1.take 1000, (pushR L chunk).2) := by
  have h1 := pushL_append [] L chunk (by simp)
  rw [push_none L h] at h1
  dsimp only at h1
  rw [List.nil_append] at h1
  have h2 : pushL [] (L ++ chunk) = pushL (L.take 1000) chunk := h1
  rw [← h2]
  unfold pushL pushR
  exact fold_step _ _ (lines_ends _ _ (Nat.le_refl _))
theorem fold_left : ∀ (ls : List Bs) (st : Bs × List Bs), (∀ c ∈ st.1, c ≠ 10) → (∀ x ∈ ls, ∀ c ∈ x.dropLast, c ≠ 10) → ∀ c ∈ (ls.foldl foldR st).1, c ≠ 10
  | [], st, h, _ => h
  | x :: ls, st, h, hl => by
    rw [List.foldl_cons]
    refine fold_left ls _ ?_ (fun y hy => hl y (by simp [hy]))
    unfold foldR
    cases hs : Lib.hasSuffix x [10]
    · rw [if_neg (by simp)]
      intro c hc
      dsimp only at hc
      rcases List.eq_nil_or_concat x with rfl | ⟨a, d, rfl⟩
      · cases hc
      · rw [List.concat_eq_append] at hc hs
        rw [suffix10] at hs
        have hd := hl (a.concat d) List.mem_cons_self
        rw [List.concat_eq_append, List.dropLast_concat] at hd
        rcases List.mem_append.1 hc with q | q
        · exact hd c q
        · rw [List.mem_singleton] at q; subst q; simpa using hs
    · rw [if_pos rfl]; exact h
theorem push_left (L chunk : Bs) : ∀ c ∈ (pushR L chunk).1, c ≠ 10 := fold_left _ _ (fun c hc => by cases hc) (lines_flat _).2
end Go.Proofs.YtapanjfheddfnaaGreatDoor
end
section
/- The contracts of the reference's text functions, out of the printed ones. -/
namespace Go.Proofs.YtapanjfheddfnaaGreatDoor
open Go.RowKit PSmtpTells Go.Proofs.YtapanjfheddfnaaGreatDoorW.PrintWords

abbrev BB (l : Bs) : ByteArray := ⟨l.toArray⟩
theorem bb_size (l : Bs) : (BB l).size = l.length := rfl
theorem bb_list (l : Bs) : (BB l).toList = l := by
  rw [Lib.toList_data]
theorem bb_ext (l : Bs) (a b : Nat) : (BB l).extract a b = BB ((l.take b).drop a) := ext_list l a b
theorem bb_app (a b : Bs) : BB a ++ BB b = BB (a ++ b) := app_list a b
theorem bt_nat (l : Bs) (i : Nat) (h : i < l.length) : bt (BB l) (i : Int) = (l[i].toNat : Int) := by
  unfold bt
  rw [dif_pos (by show (i : Int).toNat < l.length; omega)]
  rfl
theorem w64 (n : Int) (h0 : -9223372036854775808 ≤ n) (h1 : n ≤ 9223372036854775807) : wrap64 n = n := by unfold wrap64; omega
theorem byte_eq (c d : UInt8) : (c.toNat : Int) = (d.toNat : Int) ↔ c = d := by
  constructor
  · intro h; exact UInt8.toNat_inj.1 (by omega)
  · rintro rfl; rfl
/-- Two words for the same. -/
theorem blank_f (c : UInt8) : pouchref22_blank.f (c.toNat : Int) = some (blanks.contains c) := by
  unfold pouchref22_blank.f
  have h9 : (c.toNat : Int) = 9 ↔ c = 9 := byte_eq c 9
  have h32 : (c.toNat : Int) = 32 ↔ c = 32 := byte_eq c 32
  by_cases h : c = 9
  · subst h; rfl
  · rw [if_neg (fun q => h (h9.1 q))]
    congr 1
    by_cases h2 : c = 32
    · subst h2; rfl
    · have : ((c.toNat : Int) == 32) = false := by simpa using fun q => h2 (h32.1 q)
      rw [this]
      simp [blanks, List.contains, List.elem, beq_eq_false_iff_ne.2 h, beq_eq_false_iff_ne.2 h2]

/-! ### trim -/
theorem right_snoc (a : Bs) (x : UInt8) : Lib.trimRightS (a ++ [x]) blanks = if blanks.contains x then Lib.trimRightS a blanks else a ++ [x] := by
  unfold Lib.trimRightS
  rw [List.reverse_append, List.reverse_singleton, List.singleton_append, List.dropWhile_cons]
  split
  · rfl
  · simp
theorem trim_l1 : ∀ (n : Nat) (l : Bs), l.length = n → l.length ≤ 1000000000 → Ev (fun k => pouchref22_trim.l1 k (BB l)) (BB (Lib.trimRightS l blanks))
  | 0, l, hn, hl => by
    have : l = [] := List.eq_nil_of_length_eq_zero hn
    subst this
    refine Ev.step (f := fun _ => some (BB [])) (fun k => ?_) (Ev.now _)
    simp only [pouchref22_trim.l1]
    rw [if_pos (bb_list [])]
  | n + 1, l, hn, hl => by
    rcases List.eq_nil_or_concat l with rfl | ⟨a, x, rfl⟩
    · cases hn
    · rw [List.concat_eq_append] at *
      have hlen : (a ++ [x]).length = a.length + 1 := by simp
      have hw : wrap64 ((a.length + 1 : Nat) - 1 : Int) = (a.length : Int) := by rw [w64 _ (by omega) (by omega)]; omega
      have hb : bt (BB (a ++ [x])) (a.length : Int) = (x.toNat : Int) := by
        rw [bt_nat _ _ (by omega)]; simp
      rw [right_snoc]
      cases hx : blanks.contains x
      · refine Ev.step (f := fun _ => some (BB (a ++ [x]))) (fun k => ?_) (by simpa using Ev.now _)
        simp only [pouchref22_trim.l1]
        rw [if_neg (by rw [bb_list]; simp), bb_size, hlen, hw, if_pos (by omega), if_pos (by omega), hb, blank_f, hx]
        rfl
      · refine Ev.step (f := fun k => pouchref22_trim.l1 k (BB a)) (fun k => ?_) (by simpa using trim_l1 n a (by omega) (by omega))
        simp only [pouchref22_trim.l1]
        rw [if_neg (by rw [bb_list]; simp), bb_size, hlen, hw, if_pos (by omega), if_pos (by omega), hb, blank_f, hx]
        simp only [Option.bind_some, if_true]
        rw [if_pos (by omega), bb_ext]
        simp
theorem right_cons (x : UInt8) (t : Bs) : Lib.trimRightS (x :: t) blanks = if Lib.trimRightS t blanks = [] then (if blanks.contains x then [] else [x]) else x :: Lib.trimRightS t blanks := by
  unfold Lib.trimRightS
  rw [List.reverse_cons, List.dropWhile_append]
  by_cases h : (t.reverse.dropWhile (blanks.contains ·)) = []
  · rw [h]
    simp only [List.isEmpty_nil, if_true, List.reverse_nil, List.dropWhile_cons, List.dropWhile_nil]
    split <;> simp
  · have : (t.reverse.dropWhile (blanks.contains ·)).isEmpty = false := by simpa using h
    rw [this]
    simp only [Bool.false_eq_true, if_false]
    rw [if_neg (show ¬ (t.reverse.dropWhile (blanks.contains ·)).reverse = [] by simpa using h), List.reverse_append]
    rfl
theorem trim_two : ∀ l : Bs, Lib.trimRightS (Lib.trimLeftS l blanks) blanks = Lib.trimS l blanks
  | [] => rfl
  | x :: t => by
    have ih := trim_two t
    unfold Lib.trimS at ih ⊢
    cases hx : blanks.contains x
    · have e : Lib.trimLeftS (x :: t) blanks = x :: t := by unfold Lib.trimLeftS; rw [List.dropWhile_cons, hx]; rfl
      rw [e, right_cons, hx]
      split
      · simp only [Bool.false_eq_true, if_false]
        unfold Lib.trimLeftS; rw [List.dropWhile_cons, hx]; rfl
      · unfold Lib.trimLeftS; rw [List.dropWhile_cons, hx]; rfl
    · have e : ∀ u : Bs, Lib.trimLeftS (x :: u) blanks = Lib.trimLeftS u blanks := by intro u; unfold Lib.trimLeftS; rw [List.dropWhile_cons, hx]; rfl
      rw [e, ih, right_cons, hx]
      split
      · rename_i h; rw [h]; rfl
      · rw [e]
theorem trim_l0 : ∀ (l : Bs), l.length ≤ 1000000000 → Ev (fun k => pouchref22_trim.l0 k (BB l)) (BB (Lib.trimRightS (Lib.trimLeftS l blanks) blanks))
  | [], _ => by
    refine Ev.step (f := fun k => pouchref22_trim.j1 k (BB [])) (fun k => ?_) ?_
    · simp only [pouchref22_trim.l0]; rw [if_pos (bb_list [])]
    · exact Ev.step (f := fun k => pouchref22_trim.l1 k (BB [])) (fun k => by simp only [pouchref22_trim.j1]) (trim_l1 0 [] rfl (by simp))
  | x :: t, hl => by
    have hb : bt (BB (x :: t)) 0 = (x.toNat : Int) := bt_nat (x :: t) 0 (by simp)
    have hlen : (x :: t).length = t.length + 1 := rfl
    cases hx : blanks.contains x
    · refine Ev.step (f := fun k => pouchref22_trim.j1 k (BB (x :: t))) (fun k => ?_) ?_
      · simp only [pouchref22_trim.l0]
        rw [if_neg (by rw [bb_list]; simp), bb_size, if_pos (by omega), hb, blank_f, hx]
        rfl
      · have e : Lib.trimLeftS (x :: t) blanks = x :: t := by unfold Lib.trimLeftS; rw [List.dropWhile_cons, hx]; rfl
        rw [e]
        exact Ev.step (f := fun k => pouchref22_trim.l1 k (BB (x :: t))) (fun k => by simp only [pouchref22_trim.j1]) (trim_l1 _ _ rfl hl)
    · have e : Lib.trimLeftS (x :: t) blanks = Lib.trimLeftS t blanks := by unfold Lib.trimLeftS; rw [List.dropWhile_cons, hx]; rfl
      rw [e]
      refine Ev.step (f := fun k => pouchref22_trim.l0 k (BB t)) (fun k => ?_) (trim_l0 t (by omega))
      simp only [pouchref22_trim.l0]
      rw [if_neg (by rw [bb_list]; simp), bb_size, if_pos (by omega), hb, blank_f, hx]
      simp only [Option.bind_some, if_true]
      rw [if_pos (by omega), bb_ext]
      simp
theorem trim_ev (l : Bs) (hl : l.length ≤ 1000000000) : Ev (fun k => pouchref22_trim.f k (BB l)) (BB (Lib.trimS l blanks)) := by
  have := trim_l0 l hl
  rw [trim_two] at this
  exact this
theorem trimR_calls (l : Bs) (hl : l.length ≤ 1000000000) (w : World) : Calls Tryz.prog 74 #[S l] w fun e w' => e = .returned (S (Lib.trimS l blanks)) ∧ Below w.heap.size w w' := by
  obtain ⟨k, hk⟩ := (trim_ev l hl).rounds
  exact (pouchref22_trim.calls k _ _ w hk).mono fun e w' ⟨h1, h2⟩ => ⟨h1, h2.below⟩

/-! ### great, behind -/
def numsL (l : Bs) : List Int := l.map fun c => (c.toNat : Int)
theorem up_num (c : UInt8) : (if (c.toNat : Int) ≥ 97 then (if (c.toNat : Int) ≤ 122 then ((c.toNat : Int) - 32) % 256 else (c.toNat : Int)) else (c.toNat : Int)) = ((upB c).toNat : Int) := by
  have key : ∀ n : Nat, n < 256 → (if (((UInt8.ofNat n).toNat : Nat) : Int) ≥ 97 then (if (((UInt8.ofNat n).toNat : Nat) : Int) ≤ 122 then ((((UInt8.ofNat n).toNat : Nat) : Int) - 32) % 256 else (((UInt8.ofNat n).toNat : Nat) : Int)) else (((UInt8.ofNat n).toNat : Nat) : Int)) = (((upB (UInt8.ofNat n)).toNat : Nat) : Int) := by decide +kernel
  have := key c.toNat c.toNat_lt
  simpa using this
theorem ofNums (l : Bs) : strOfNums (numsL l) = BB l := Lib.Lz.strOfNums_map l
theorem great_l0 (l : Bs) (hl : l.length ≤ 1000000000) : ∀ (d i : Nat), d + i = l.length → Ev (fun k => pouchref22_great.l0 k (BB l) (numsL (upL (l.take i))) (i : Int)) (BB (upL l))
  | 0, i, hd => by
    refine Ev.step (f := fun _ => some (strOfNums (numsL (upL (l.take i))))) (fun k => ?_) ?_
    · simp only [pouchref22_great.l0]
      rw [bb_size, if_neg (by omega)]
    · rw [ofNums, List.take_of_length_le (by omega)]; exact Ev.now _
  | d + 1, i, hd => by
    have hi : i < l.length := by omega
    have hlen : (numsL (upL (l.take i))).length = i := by simp [numsL, upL]; omega
    have hw : wrap64 ((i : Int) + 1) = ((i + 1 : Nat) : Int) := by rw [w64 _ (by omega) (by omega)]; omega
    have hs : numsL (upL (l.take (i + 1))) = numsL (upL (l.take i)) ++ [((upB l[i]).toNat : Int)] := by
      rw [List.take_succ_eq_append_getElem hi]; unfold numsL upL; rw [List.map_append, List.map_append]; rfl
    refine Ev.step (f := fun k => pouchref22_great.l0 k (BB l) (numsL (upL (l.take (i + 1)))) ((i + 1 : Nat) : Int)) (fun k => ?_) (great_l0 l hl d (i + 1) (by omega))
    rw [hs, ← up_num]
    simp only [pouchref22_great.l0]
    rw [bb_size, if_pos (by omega), if_pos (by omega), bt_nat l i hi, hlen, hw]
    split
    · split
      · rw [if_pos (by omega)]
      · rw [if_pos (by omega)]
    · rw [if_pos (by omega)]
theorem great_ev (l : Bs) (hl : l.length ≤ 1000000000) : Ev (fun k => pouchref22_great.f k (BB l)) (BB (upL l)) := by
  have := great_l0 l hl l.length 0 (by omega)
  exact this
theorem greatR_calls (l : Bs) (hl : l.length ≤ 1000000000) (w : World) : Calls Tryz.prog 76 #[S l] w fun e w' => e = .returned (S (upL l)) ∧ Below w.heap.size w w' := by
  obtain ⟨k, hk⟩ := (great_ev l hl).rounds
  exact pouchref22_great.calls k _ _ w hk
theorem behind_ev (s b : Bs) (hs : s.length ≤ 1000000000) : Ev (fun k => pouchref22_behind.f k (BB s) (BB b)) (BB (behindB s b).1, (behindB s b).2) := by
  unfold behindB
  by_cases h : s.length < b.length
  · refine Ev.congr (f := fun _ => some (BB [], false)) (fun k => ?_) (by rw [if_pos h]; exact Ev.now _)
    unfold pouchref22_behind.f
    rw [bb_size, bb_size, if_pos (by omega)]
  · rw [if_neg h]
    have he : (BB s).extract 0 ((b.length : Nat) : Int).toNat = BB (s.take b.length) := by rw [bb_ext]; simp
    refine Ev.congr (f := fun k => (pouchref22_great.f k (BB (s.take b.length))).bind fun t => if t.toList = b then some (BB (s.drop b.length), true) else some (BB [], false)) (fun k => ?_) ?_
    · unfold pouchref22_behind.f
      rw [bb_size, bb_size, if_neg (by omega), if_pos (by omega), if_pos (by omega), he, bb_list]
      have e2 : (BB s).extract ((b.length : Nat) : Int).toNat s.length = BB (s.drop b.length) := by rw [bb_ext]; simp
      rw [e2]
    · refine Ev.bind (great_ev (s.take b.length) (by rw [List.length_take]; omega)) ?_
      rw [bb_list]
      split
      · exact Ev.now _
      · exact Ev.now _
theorem behindR_calls (s b : Bs) (hs : s.length ≤ 1000000000) (w : World) : Calls Tryz.prog 100 #[S s, S b] w fun e w' => e = .returned (.tuple #[S (behindB s b).1, .bool (behindB s b).2]) ∧ Below w.heap.size w w' := by
  obtain ⟨k, hk⟩ := (behind_ev s b hs).rounds
  exact pouchref22_behind.calls k _ _ _ _ w hk

/-! ### may -/
theorem may_l0 (a : Bs) (ha : a.length ≤ 1000000000) : ∀ (d i : Nat), 1 ≤ i → i ≤ a.length + 1 → a.length ≤ d + i + 1 → Ev (fun k => pouchref22_may.l0 k (BB a) (i : Int)) (decide (a.length ≤ 254) && ((a.take (a.length - 1)).drop i).any (· == 64))
  | d, i, h1, hia, hd => by
    have hw : wrap64 ((i : Int) + 1) = ((i + 1 : Nat) : Int) := by rw [w64 _ (by omega) (by omega)]; omega
    by_cases h : i + 1 < a.length
    · have hi : i < a.length := by omega
      have hdr : (a.take (a.length - 1)).drop i = a[i] :: (a.take (a.length - 1)).drop (i + 1) := by
        rw [List.drop_eq_getElem_cons (by rw [List.length_take]; omega)]
        congr 1
        simp
      rw [hdr, List.any_cons]
      by_cases hx : a[i] = 64
      · refine Ev.step (f := fun _ => some (decide ((a.length : Int) ≤ 254))) (fun k => ?_) ?_
        · simp only [pouchref22_may.l0]
          rw [hw, bb_size, if_pos (by omega), if_pos (by omega), if_pos (by omega), bt_nat a i hi, hx, if_pos (by decide)]
        · have : decide ((a.length : Int) ≤ 254) = (decide (a.length ≤ 254) && ((a[i] == 64) || ((a.take (a.length - 1)).drop (i + 1)).any (· == 64))) := by
            rw [hx]; simp; omega
          rw [this]; exact Ev.now _
      · obtain ⟨d, rfl⟩ : ∃ m, d = m + 1 := ⟨d - 1, by omega⟩
        have hx' : (a[i] == 64) = false := by simpa using hx
        rw [hx', Bool.false_or]
        refine Ev.step (f := fun k => pouchref22_may.l0 k (BB a) ((i + 1 : Nat) : Int)) (fun k => ?_) (may_l0 a ha d (i + 1) (by omega) (by omega) (by omega))
        simp only [pouchref22_may.l0]
        rw [hw, bb_size, if_pos (by omega), if_pos (by omega), if_pos (by omega), bt_nat a i hi, if_neg (show ¬ (a[i].toNat : Int) = 64 from fun q => hx ((byte_eq _ 64).1 q))]
    · have : (a.take (a.length - 1)).drop i = [] := List.drop_eq_nil_of_le (by rw [List.length_take]; omega)
      rw [this]
      refine Ev.step (f := fun _ => some false) (fun k => ?_) (by simpa using Ev.now _)
      simp only [pouchref22_may.l0]
      rw [hw, bb_size, if_neg (by omega)]
theorem mayR_calls (a : Bs) (ha : a.length ≤ 1000000000) (w : World) : Calls Tryz.prog 103 #[S a] w fun e w' => e = .returned (.bool (mayB a)) ∧ Below w.heap.size w w' := by
  have he : Ev (fun k => pouchref22_may.f k (BB a)) (mayB a) := by
    have := may_l0 a ha a.length 1 (Nat.le_refl _) (by omega) (by omega)
    unfold mayB
    rw [← List.drop_one]
    exact this
  obtain ⟨k, hk⟩ := he.rounds
  exact (pouchref22_may.calls k _ _ w hk).mono fun e w' ⟨h1, h2⟩ => ⟨h1, h2.below⟩
end Go.Proofs.YtapanjfheddfnaaGreatDoor
end
section
/- The contracts of the reference's text functions, continued: numbers, replies, lines, paths, options. -/
namespace Go.Proofs.YtapanjfheddfnaaGreatDoor
open Go.RowKit PSmtpTells Go.Proofs.YtapanjfheddfnaaGreatDoorW.PrintWords

/-! ### numbers -/
theorem dec_len (u : Nat) (hu : u ≤ 9223372036854775808) : (Lib.decDigits u).length ≤ 21 := by
  by_cases h : u ≤ 9223372036854775807
  · have := Lib.itoa_length_le (u : Int) (by omega) (by omega)
    rwa [Lib.itoa_nonneg] at this
  · have : u = 9223372036854775808 := by omega
    subst this
    decide +kernel
theorem one_num (u : Nat) (hu : u < 10) : strOfNums [(wrap64 (48 + (u : Int))) % 256] = BB [UInt8.ofNat (48 + u)] := by
  have : (wrap64 (48 + (u : Int))) % 256 = ((48 + u : Nat) : Int) := by rw [w64 _ (by omega) (by omega)]; omega
  rw [this]
  rfl
theorem text_pos : ∀ (u : Nat), u ≤ 9223372036854775807 → Ev (fun k => pouchref01_Text.f k (u : Int)) (BB (Lib.decDigits u)) := by
  intro u
  induction u using Nat.strongRecOn with
  | ind u ih =>
    intro hu
    by_cases h : u < 10
    · refine Ev.step (f := fun _ => some (BB (Lib.decDigits u))) (fun k => ?_) (Ev.now _)
      simp only [pouchref01_Text.f]
      rw [if_neg (by omega), if_pos (by omega), one_num u h, Lib.decDigits, dif_pos h]
    · have h1 : wrap64 (Int.tdiv (u : Int) 10) = ((u / 10 : Nat) : Int) := by
        rw [show Int.tdiv (u : Int) 10 = ((u / 10 : Nat) : Int) from by rw [Int.tdiv_eq_ediv_of_nonneg (by omega)]; omega]
        rw [w64 _ (by omega) (by omega)]
      have h2 : Int.tmod (u : Int) 10 = ((u % 10 : Nat) : Int) := by rw [Int.tmod_eq_emod_of_nonneg (by omega)]; omega
      have hl := dec_len (u / 10) (by omega)
      refine Ev.step (f := fun k => (pouchref01_Text.f k ((u / 10 : Nat) : Int)).bind fun t => if t.size + 1 ≤ 9223372036854775807 then some (t ++ BB [UInt8.ofNat (48 + u % 10)]) else none) (fun k => ?_) ?_
      · simp only [pouchref01_Text.f]
        rw [if_neg (by omega), if_neg (by omega), h1, h2]
        simp only [Option.bind_some]
        rw [one_num (u % 10) (by omega)]
        rfl
      · refine Ev.bind (ih (u / 10) (by omega) (by omega)) ?_
        rw [bb_size, if_pos (by omega), bb_app]
        have e : Lib.decDigits u = Lib.decDigits (u / 10) ++ [UInt8.ofNat (48 + u % 10)] := by rw [Lib.decDigits, dif_neg h]
        rw [e]
        exact Ev.now _
theorem text_neg : ∀ (u : Nat), 1 ≤ u → u ≤ 9223372036854775808 → Ev (fun k => pouchref01_Text.f k (-(u : Int))) (BB (45 :: Lib.decDigits u)) := by
  intro u
  induction u using Nat.strongRecOn with
  | ind u ih =>
    intro h1 hu
    by_cases h : u < 10
    · refine Ev.step (f := fun _ => some (BB (45 :: Lib.decDigits u))) (fun k => ?_) (Ev.now _)
      simp only [pouchref01_Text.f]
      have e : (48 : Int) - -(u : Int) = 48 + (u : Int) := by omega
      rw [if_pos (by omega), if_pos (by omega), e]
      simp only [Option.bind_some]
      rw [one_num u h, Lib.decDigits, dif_pos h, bb_size]
      rw [if_pos (by simp)]
      rfl
    · have e1 : wrap64 (Int.tdiv (-(u : Int)) 10) = -((u / 10 : Nat) : Int) := by
        rw [show Int.tdiv (-(u : Int)) 10 = -((u / 10 : Nat) : Int) from by rw [Int.neg_tdiv, Int.tdiv_eq_ediv_of_nonneg (by omega)]; omega]
        rw [w64 _ (by omega) (by omega)]
      have e2 : (48 : Int) - Int.tmod (-(u : Int)) 10 = 48 + ((u % 10 : Nat) : Int) := by rw [Int.neg_tmod, Int.tmod_eq_emod_of_nonneg (by omega)]; omega
      have hl := dec_len (u / 10) (by omega)
      refine Ev.step (f := fun k => (pouchref01_Text.f k (-((u / 10 : Nat) : Int))).bind fun t => if t.size + 1 ≤ 9223372036854775807 then some (t ++ BB [UInt8.ofNat (48 + u % 10)]) else none) (fun k => ?_) ?_
      · simp only [pouchref01_Text.f]
        rw [if_pos (by omega), if_neg (by omega), e1, e2]
        simp only [Option.bind_some]
        rw [one_num (u % 10) (by omega)]
        rfl
      · refine Ev.bind (ih (u / 10) (by omega) (by omega) (by omega)) ?_
        rw [bb_size, if_pos (by simp; omega), bb_app]
        have e : Lib.decDigits u = Lib.decDigits (u / 10) ++ [UInt8.ofNat (48 + u % 10)] := by rw [Lib.decDigits, dif_neg h]
        rw [e]
        exact Ev.now _
theorem text_ev (n : Int) (h0 : -9223372036854775808 ≤ n) (h1 : n ≤ 9223372036854775807) : Ev (fun k => pouchref01_Text.f k n) (BB (Lib.itoa n)) := by
  by_cases h : 0 ≤ n
  · obtain ⟨u, rfl⟩ := Int.eq_ofNat_of_zero_le h
    have e := Lib.itoa_nonneg u
    rw [show Lib.itoa ((u : Nat) : Int) = _ from e]
    exact text_pos u (by omega)
  · obtain ⟨u, hu⟩ := Int.eq_ofNat_of_zero_le (show 0 ≤ -n by omega)
    have : n = -(u : Int) := by omega
    subst this
    rw [Lib.itoa_neg u (by omega)]
    exact text_neg u (by omega) (by omega)
theorem textR_calls (n : Int) (h0 : -9223372036854775808 ≤ n) (h1 : n ≤ 9223372036854775807) (w : World) : Calls Tryz.prog 54 #[.int .i64 n] w fun e w' => e = .returned (S (Lib.itoa n)) ∧ Below w.heap.size w w' := by
  obtain ⟨k, hk⟩ := (text_ev n h0 h1).rounds
  exact pouchref01_Text.calls k _ _ w hk

/-! ### lines -/
theorem split_l0 (s : Bs) (hs : s.length ≤ 1000000000) : ∀ (d i a : Nat) (outs : List Bs), d + i = s.length → a ≤ i → outs.length ≤ a → (∀ c ∈ (s.take i).drop a, c ≠ 10) →
    Ev (fun k => pouchref08_Split.l0 k (BB s) (outs.map BB) (a : Int) (i : Int)) ((outs ++ linesL (s.drop a)).map BB)
  | 0, i, a, outs, hd, ha, ho, hn => by
    have hi : i = s.length := by omega
    subst hi
    rw [List.take_length] at hn
    have hol : (outs.map BB).length = outs.length := by simp
    by_cases h : a < s.length
    · have h0 : s.drop a ≠ [] := by intro e; have := congrArg List.length e; rw [List.length_drop, List.length_nil] at this; omega
      have hl : linesL (s.drop a) = [s.drop a] := linesL_last _ h0 (by rw [cut_none 10 _ hn])
      rw [hl, List.map_append]
      refine Ev.step (f := fun _ => some (outs.map BB ++ [BB (s.drop a)])) (fun k => ?_) (Ev.now _)
      simp only [pouchref08_Split.l0]
      rw [bb_size, if_neg (by omega), if_pos (by omega), if_pos (by omega), if_pos (by omega), hol, if_pos (by omega), bb_ext]
      simp
    · have : s.drop a = [] := List.drop_eq_nil_of_le (by omega)
      rw [this, linesL_nil, List.append_nil]
      refine Ev.step (f := fun _ => some (outs.map BB)) (fun k => ?_) (Ev.now _)
      simp only [pouchref08_Split.l0]
      rw [bb_size, if_neg (by omega), if_neg (by omega)]
  | d + 1, i, a, outs, hd, ha, ho, hn => by
    have hi : i < s.length := by omega
    have hol : (outs.map BB).length = outs.length := by simp
    have hw : wrap64 ((i : Int) + 1) = ((i + 1 : Nat) : Int) := by rw [w64 _ (by omega) (by omega)]; omega
    have hsn : (s.take (i + 1)).drop a = (s.take i).drop a ++ [s[i]] := by
      rw [List.take_succ_eq_append_getElem hi, List.drop_append_of_le_length (by rw [List.length_take]; omega)]
    by_cases hx : s[i] = 10
    · have hl : linesL (s.drop a) = ((s.take (i + 1)).drop a) :: linesL (s.drop (i + 1)) := by
        have e : s.drop a = (s.take i).drop a ++ 10 :: s.drop (i + 1) := by
          have e1 : s = s.take i ++ 10 :: s.drop (i + 1) := by
            rw [← hx, ← List.drop_eq_getElem_cons hi, List.take_append_drop]
          conv => lhs; rw [e1]
          rw [List.drop_append_of_le_length (by rw [List.length_take]; omega)]
        rw [e, linesL_cons _ _ hn, hsn, hx]
      have e3 : outs ++ linesL (s.drop a) = (outs ++ [(s.take (i + 1)).drop a]) ++ linesL (s.drop (i + 1)) := by rw [hl]; simp
      rw [e3]
      refine Ev.step (f := fun k => pouchref08_Split.l0 k (BB s) ((outs ++ [(s.take (i + 1)).drop a]).map BB) ((i + 1 : Nat) : Int) ((i + 1 : Nat) : Int)) (fun k => ?_) (split_l0 s hs d (i + 1) (i + 1) (outs ++ [(s.take (i + 1)).drop a]) (by omega) (Nat.le_refl _) (by rw [List.length_append, List.length_singleton]; omega) (by intro c hc; rw [List.drop_eq_nil_of_le (by rw [List.length_take]; omega)] at hc; cases hc))
      simp only [pouchref08_Split.l0]
      rw [bb_size, if_pos (by omega), if_pos (by omega), bt_nat s i hi, hx, hw, if_pos (by decide), if_pos (by omega), if_pos (by omega), if_pos (by omega), hol, if_pos (by omega), bb_ext, List.map_append]
      simp
    · refine Ev.step (f := fun k => pouchref08_Split.l0 k (BB s) (outs.map BB) (a : Int) ((i + 1 : Nat) : Int)) (fun k => ?_) (split_l0 s hs d (i + 1) a outs (by omega) (by omega) ho (by
        intro c hc
        rw [hsn] at hc
        rcases List.mem_append.1 hc with q | q
        · exact hn c q
        · rw [List.mem_singleton] at q; rw [q]; exact hx))
      simp only [pouchref08_Split.l0]
      rw [bb_size, if_pos (by omega), if_pos (by omega), bt_nat s i hi, if_neg (show ¬ (s[i].toNat : Int) = 10 from fun q => hx ((byte_eq _ 10).1 q)), hw]
theorem splitR_calls (s : Bs) (hs : s.length ≤ 1000000000) (w : World) (h8 : 8 ≤ w.heap.size) :
    Calls Tryz.prog 71 #[S s] w fun e w' => ∃ v, e = .returned v ∧ RowAt w' 9 v (strsV (linesL s)) ∧ (∀ k, v.ownBlock = some k → w.heap.size ≤ k) ∧ Below w.heap.size w w' := by
  have he : Ev (fun k => pouchref08_Split.f k (BB s)) ((linesL s).map BB) := split_l0 s hs s.length 0 0 [] (by omega) (Nat.le_refl _) (by simp) (by simp)
  obtain ⟨k, hk⟩ := he.rounds
  refine (pouchref08_Split.calls k _ _ w hk).mono fun e w' ⟨v, h1, h2, h3⟩ => ⟨v, h1, ?_, ?_, h3⟩
  · have := Kd.own_of_R h2
    have e : encs Value.string ((linesL s).map BB) = strsV (linesL s) := by
      unfold strsV encs; rw [List.map_map]; rfl
    rw [e] at this
    exact RowAt.of_owns this h8
  · exact own_base (Kd.own_of_R h2)
theorem toldR_calls (l : Bs) (hl : l.length ≤ 1000000000) (w : World) : Calls Tryz.prog 72 #[S l, .int .i64 1000] w fun e w' => e = .returned (S (l.take 1000)) ∧ Below w.heap.size w w' := by
  have he : pouchref08_told.f (BB l) 1000 = some (BB (l.take 1000)) := by
    unfold pouchref08_told.f
    rw [bb_size]
    by_cases h : (l.length : Int) > 1000
    · rw [if_pos h, if_pos (by omega), if_pos (by omega), bb_ext]
      simp
    · rw [if_neg h, List.take_of_length_le (by omega)]
  exact (pouchref08_told.calls _ _ _ w he).mono fun e w' ⟨h1, h2⟩ => ⟨h1, h2.below⟩
theorem bare_snoc (a : Bs) (x : UInt8) : bareL (a ++ [x]) = if x = 10 then Lib.trimSuffix a [13] else a ++ [x] := by
  unfold bareL
  rw [suffix10]
  by_cases h : x = 10
  · subst h
    rw [if_pos (by decide), if_pos rfl]
    simp
  · rw [if_neg (by simpa using h), if_neg h]
theorem trimSuf (a : Bs) (y : UInt8) : Lib.trimSuffix (a ++ [y]) [13] = if y = 13 then a else a ++ [y] := by
  unfold Lib.trimSuffix
  have : Lib.hasSuffix (a ++ [y]) [13] = (y == 13) := by
    unfold Lib.hasSuffix
    simp [List.isSuffixOf, List.isPrefixOf]
    exact BEq.comm
  rw [this]
  by_cases h : y = 13
  · rw [if_pos (by simpa using h), if_pos h]; simp
  · rw [if_neg (by simpa using h), if_neg h]
theorem bare_ev (l : Bs) (hl : l.length ≤ 1000000000) : Ev (fun k => pouchref08_Bare.f k (BB l)) (BB (bareL l)) := by
  have stop : ∀ (l : Bs) (n : Int), Ev (fun k => pouchref08_Bare.j0 k (BB l) n true) (BB l) := fun l n =>
    Ev.step (f := fun _ => some (BB l)) (fun k => by simp only [pouchref08_Bare.j0, if_true]) (Ev.now _)
  rcases List.eq_nil_or_concat l with rfl | ⟨a, x, rfl⟩
  · refine Ev.congr (fun k => ?_) (stop [] 0)
    unfold pouchref08_Bare.f
    rw [bb_size, if_pos (by simp)]; rfl
  · rw [List.concat_eq_append] at *
    have hlen : (a ++ [x]).length = a.length + 1 := by simp
    have hw : wrap64 (((a.length + 1 : Nat) : Int) - 1) = (a.length : Int) := by rw [w64 _ (by omega) (by omega)]; omega
    have hb : bt (BB (a ++ [x])) (a.length : Int) = (x.toNat : Int) := by rw [bt_nat _ _ (by omega)]; simp
    have hf : ∀ k, pouchref08_Bare.f k (BB (a ++ [x])) = pouchref08_Bare.j0 k (BB (a ++ [x])) ((a.length + 1 : Nat) : Int) ((x.toNat : Int) != 10) := by
      intro k
      unfold pouchref08_Bare.f
      rw [bb_size, hlen, if_neg (by omega), hw, if_pos (by omega), if_pos (by omega), hb]
    rw [bare_snoc]
    by_cases hx : x = 10
    · subst hx
      rw [if_pos rfl]
      have hd : ((((10 : UInt8).toNat : Nat) : Int) != 10) = false := by decide
      refine Ev.congr hf ?_
      rw [hd]
      have last : ∀ k : Nat, (if 0 ≤ (wrap64 (((a.length + 1 : Nat) : Int) - 1)) then (if (wrap64 (((a.length + 1 : Nat) : Int) - 1)) ≤ ((a.length + 1 : Nat) : Int) then (some ((BB (a ++ [10])).extract 0 ((wrap64 (((a.length + 1 : Nat) : Int) - 1)) : Int).toNat)) else (none)) else (none)) = some (BB a) := by
        intro _
        rw [hw, if_pos (by omega), if_pos (by omega), bb_ext]
        simp
      rcases List.eq_nil_or_concat a with rfl | ⟨c, y, rfl⟩
      · refine Ev.step (f := fun _ => some (BB (Lib.trimSuffix [] [13]))) (fun k => ?_) (Ev.now _)
        simp only [pouchref08_Bare.j0]
        rw [if_neg (by simp), if_neg (by simp), bb_size, hlen, last 0]
        rfl
      · rw [List.concat_eq_append] at *
        have hlen2 : (c ++ [y]).length = c.length + 1 := by simp
        have hw2 : wrap64 ((((c ++ [y]).length + 1 : Nat) : Int) - 2) = (c.length : Int) := by rw [w64 _ (by omega) (by omega)]; omega
        have hb2 : bt (BB (c ++ [y] ++ [10])) (c.length : Int) = (y.toNat : Int) := by rw [bt_nat _ _ (by omega)]; simp
        rw [trimSuf]
        by_cases hy : y = 13
        · rw [if_pos hy]
          have h13 : (y.toNat : Int) = 13 := by rw [hy]; rfl
          refine Ev.step (f := fun _ => some (BB c)) (fun k => ?_) (Ev.now _)
          simp only [pouchref08_Bare.j0]
          rw [if_neg (by simp), if_pos (by omega), hw2, bb_size, hlen, if_pos (by omega), if_pos (by omega), hb2, if_pos h13, if_pos (by omega), bb_ext]
          simp
        · rw [if_neg hy]
          refine Ev.step (f := fun _ => some (BB (c ++ [y]))) (fun k => ?_) (Ev.now _)
          simp only [pouchref08_Bare.j0]
          rw [if_neg (by simp), if_pos (by omega), hw2, bb_size, hlen, if_pos (by omega), if_pos (by omega), hb2, if_neg (show ¬ (y.toNat : Int) = 13 from fun q => hy ((byte_eq _ 13).1 q)), last 0]
    · rw [if_neg hx]
      have hd : ((x.toNat : Int) != 10) = true := by
        have : ¬ (x.toNat : Int) = 10 := fun q => hx ((byte_eq _ 10).1 q)
        simpa using this
      refine Ev.congr hf ?_
      rw [hd]
      exact stop _ _
theorem bareR_calls (l : Bs) (hl : l.length ≤ 1000000000) (w : World) : Calls Tryz.prog 73 #[S l] w fun e w' => e = .returned (S (bareL l)) ∧ Below w.heap.size w w' := by
  obtain ⟨k, hk⟩ := (bare_ev l hl).rounds
  exact (pouchref08_Bare.calls k _ _ w hk).mono fun e w' ⟨h1, h2⟩ => ⟨h1, h2.below⟩

/-! ### paths -/
def pathT : Option (Bs × Bs) → ByteArray × ByteArray × Bool
  | none => (BB [], BB [], false)
  | some (a, r) => (BB a, BB r, true)
def pathG (s : Bs) (i : Nat) : Option (Bs × Bs) := match (s.drop i).dropWhile pc with | y :: r => if y = 62 then some ((s.take i).drop 1 ++ (s.drop i).takeWhile pc, r) else none | [] => none
theorem pc_iff (c : UInt8) : pc c = true ↔ (c.toNat : Int) > 32 ∧ (c.toNat : Int) < 127 ∧ ¬ (c.toNat : Int) = 60 ∧ ¬ (c.toNat : Int) = 62 := by
  unfold pc pathC
  have h1 : ((c.toNat : Int) = 60 ↔ c = 60) := byte_eq c 60
  have h2 : ((c.toNat : Int) = 62 ↔ c = 62) := byte_eq c 62
  rw [h1, h2]
  have k1 : (32 < c) ↔ 32 < c.toNat := UInt8.lt_iff_toNat_lt
  have k2 : (c ≤ 126) ↔ c.toNat ≤ 126 := UInt8.le_iff_toNat_le
  simp only [Bool.and_eq_true, decide_eq_true_eq, bne_iff_ne, ne_eq, k1, k2]
  constructor
  · rintro ⟨⟨⟨q1, q2⟩, q3⟩, q4⟩
    exact ⟨by omega, by omega, q3, q4⟩
  · rintro ⟨q1, q2, q3, q4⟩
    exact ⟨⟨⟨by omega, by omega⟩, q3⟩, q4⟩
theorem path_l0 (s : Bs) (hs : s.length ≤ 1000000000) : ∀ (d i : Nat), d + i = s.length → 1 ≤ i → Ev (fun k => pouchref22_path.l0 k (BB s) (i : Int)) (pathT (pathG s i))
  | 0, i, hd, h1 => by
    have : s.drop i = [] := List.drop_eq_nil_of_le (by omega)
    unfold pathG
    rw [this]
    refine Ev.step (f := fun _ => some (BB [], BB [], false)) (fun k => ?_) (Ev.now _)
    simp only [pouchref22_path.l0]
    rw [bb_size, if_neg (by omega), if_pos (by omega)]
  | d + 1, i, hd, h1 => by
    have hi : i < s.length := by omega
    have hw : wrap64 ((i : Int) + 1) = ((i + 1 : Nat) : Int) := by rw [w64 _ (by omega) (by omega)]; omega
    have hdr : s.drop i = s[i] :: s.drop (i + 1) := List.drop_eq_getElem_cons hi
    have hpc := pc_iff s[i]
    have h62 : ((s[i].toNat : Int) = 62 ↔ s[i] = 62) := byte_eq s[i] 62
    cases hp : pc s[i]
    · have hno : ¬ ((s[i].toNat : Int) > 32 ∧ (s[i].toNat : Int) < 127 ∧ ¬ (s[i].toNat : Int) = 60 ∧ ¬ (s[i].toNat : Int) = 62) := fun q => by rw [hpc.2 q] at hp; cases hp
      have hg : pathG s i = if s[i] = 62 then some ((s.take i).drop 1, s.drop (i + 1)) else none := by
        have q1 : (s.drop i).dropWhile pc = s[i] :: s.drop (i + 1) := by rw [hdr, List.dropWhile_cons, hp]; rfl
        have q2 : (s.drop i).takeWhile pc = [] := by rw [hdr, List.takeWhile_cons, hp]; rfl
        unfold pathG
        rw [q1, q2, List.append_nil]
      rw [hg]
      refine Ev.step (f := fun _ => some (pathT (if s[i] = 62 then some ((s.take i).drop 1, s.drop (i + 1)) else none))) (fun k => ?_) (Ev.now _)
      have e1 : (BB s).extract 1 ((i : Nat) : Int).toNat = BB ((s.take i).drop 1) := by rw [bb_ext]; rfl
      have e2 : (BB s).extract ((i + 1 : Nat) : Int).toNat s.length = BB (s.drop (i + 1)) := by rw [bb_ext]; simp
      simp only [pouchref22_path.l0]
      rw [bb_size, bt_nat s i hi, hw, e1, e2]
      by_cases hx : s[i] = 62
      · have hx' := h62.2 hx
        rw [if_pos hx, hx', if_pos (by omega), if_pos (by omega), if_pos (by decide), if_pos (by decide), if_neg (by decide), if_pos (by decide), if_neg (by omega), if_pos (by omega), if_pos (by omega), if_pos (by omega), if_pos (by omega)]
        rfl
      · have hx' : ¬ (s[i].toNat : Int) = 62 := fun q => hx (h62.1 q)
        rw [if_neg hx]
        simp only [pathT]
        repeat' split
        all_goals first | rfl | omega
    · have hq := hpc.1 hp
      have hg : pathG s i = pathG s (i + 1) := by
        have q1 : (s.drop i).dropWhile pc = (s.drop (i + 1)).dropWhile pc := by rw [hdr, List.dropWhile_cons, hp]; rfl
        have q2 : (s.drop i).takeWhile pc = s[i] :: (s.drop (i + 1)).takeWhile pc := by rw [hdr, List.takeWhile_cons, hp]; rfl
        have q3 : (s.take (i + 1)).drop 1 = (s.take i).drop 1 ++ [s[i]] := by
          rw [List.take_succ_eq_append_getElem hi, List.drop_append_of_le_length (by rw [List.length_take]; omega)]
        unfold pathG
        rw [q1, q2, q3, List.append_assoc]
        rfl
      rw [hg]
      refine Ev.step (f := fun k => pouchref22_path.l0 k (BB s) ((i + 1 : Nat) : Int)) (fun k => ?_) (path_l0 s hs d (i + 1) (by omega) (by omega))
      simp only [pouchref22_path.l0]
      rw [bb_size, bt_nat s i hi, hw]
      repeat (first | rw [if_pos (by omega)] | rw [if_neg (by omega)])
theorem path_ev (s : Bs) (hs : s.length ≤ 1000000000) : Ev (fun k => pouchref22_path.f k (BB s)) (pathT (pathB s)) := by
  have stop : ∀ s : Bs, Ev (fun k => pouchref22_path.j0 k (BB s) true) (pathT none) := fun s =>
    Ev.step (f := fun _ => some (BB [], BB [], false)) (fun k => by simp only [pouchref22_path.j0, if_true]) (Ev.now _)
  cases s with
  | nil =>
    refine Ev.congr (fun k => ?_) (stop [])
    unfold pouchref22_path.f
    rw [if_pos (bb_list [])]
  | cons x t =>
    have hb : bt (BB (x :: t)) 0 = (x.toNat : Int) := bt_nat (x :: t) 0 (by simp)
    have hf : ∀ k, pouchref22_path.f k (BB (x :: t)) = pouchref22_path.j0 k (BB (x :: t)) ((x.toNat : Int) != 60) := by
      intro k
      unfold pouchref22_path.f
      rw [if_neg (by rw [bb_list]; simp), bb_size, if_pos (by simp), hb]
    refine Ev.congr hf ?_
    unfold pathB
    dsimp only
    by_cases hx : x = 60
    · subst hx
      rw [if_pos rfl]
      have hd : ((((60 : UInt8).toNat : Nat) : Int) != 60) = false := by decide
      rw [hd]
      refine Ev.step (f := fun k => pouchref22_path.l0 k (BB (60 :: t)) ((1 : Nat) : Int)) (fun k => by simp only [pouchref22_path.j0]; rfl) ?_
      have := path_l0 (60 :: t) hs t.length 1 (by simp) (Nat.le_refl _)
      have e : pathG (60 :: t) 1 = (match t.dropWhile pc with | y :: r => if y = 62 then some (t.takeWhile pc, r) else none | [] => none) := by
        unfold pathG
        simp
      rw [e] at this
      exact this
    · rw [if_neg hx]
      have hd : ((x.toNat : Int) != 60) = true := by
        have : ¬ (x.toNat : Int) = 60 := fun q => hx ((byte_eq _ 60).1 q)
        simpa using this
      rw [hd]
      exact stop _
def pathW (p : Option (Bs × Bs)) : Array Value := match p with | some (a, r) => #[S a, S r, .bool true] | none => #[S [], S [], .bool false]
theorem pathR_calls (s : Bs) (hs : s.length ≤ 1000000000) (w : World) : Calls Tryz.prog 101 #[S s] w fun e w' => e = .returned (.tuple (pathW (pathB s))) ∧ Below w.heap.size w w' := by
  obtain ⟨k, hk⟩ := (path_ev s hs).rounds
  refine (pouchref22_path.calls k _ _ _ _ w hk).mono fun e w' ⟨h1, h2⟩ => ⟨?_, h2.below⟩
  rw [h1]
  cases pathB s with
  | none => rfl
  | some p => rfl
end Go.Proofs.YtapanjfheddfnaaGreatDoor
end
section
/- The contracts of the reference's Parse and of MAIL's options. -/
namespace Go.Proofs.YtapanjfheddfnaaGreatDoor
open Go.RowKit PSmtpTells Go.Proofs.YtapanjfheddfnaaGreatDoorW.PrintWords

def parseC (s : Bs) (neg : Bool) : Option Nat → Int × Bool
  | none => (0, false)
  | some m =>
    if neg = false ∧ m = 9223372036854775808 then (0, false) else
    if Lib.itoa (if neg then -(m : Int) else m) ≠ s ∨ (if neg then -(m : Int) else m) < 0 then (0, false) else ((if neg then -(m : Int) else m), true)
theorem parseB_eq (s : Bs) : parseB s = parseC s (isNeg s) (valF (signB s) 0) := by
  unfold parseB parseC
  cases valF (signB s) 0 <;> rfl
theorem parse_j3 (s : Bs) (neg : Bool) (m : Nat) (hm : m ≤ 9223372036854775808) :
    Ev (fun k => pouchref01_Parse.j3 k (BB s) 0 big neg (-(m : Int)) (!neg && decide (m = 9223372036854775808))) (parseC s neg (some m)) := by
  cases neg
  · by_cases h : m = 9223372036854775808
    · refine Ev.step (f := fun _ => some (0, false)) (fun k => ?_) ?_
      · simp only [pouchref01_Parse.j3, Bool.not_false, Bool.true_and]
        rw [if_pos (by simpa using h)]
      · have hC : parseC s false (some m) = (0, false) := by unfold parseC; simp [h]
        rw [hC]; exact Ev.now _
    · have hd : decide (m = 9223372036854775808) = false := decide_eq_false h
      have hw : wrap64 (- -(m : Int)) = (m : Int) := by rw [w64 _ (by omega) (by omega)]; omega
      refine Ev.step (f := fun k => (pouchref01_Text.f k (m : Int)).bind fun t => if t.toList = s then (if (m : Int) < 0 then some (0, false) else (if (m : Int) > big then some (0, false) else some ((m : Int), true))) else some (0, false)) (fun k => ?_) ?_
      · simp only [pouchref01_Parse.j3, Bool.not_false, Bool.true_and]
        rw [hd, hw, bb_list, if_neg (by simp), if_neg (by simp)]
      · refine Ev.bind (text_ev (m : Int) (by omega) (by omega)) ?_
        rw [bb_list]
        have hC : parseC s false (some m) = if Lib.itoa (m : Int) ≠ s ∨ (m : Int) < 0 then (0, false) else ((m : Int), true) := by unfold parseC; simp [h]
        rw [hC]
        by_cases he : Lib.itoa (m : Int) = s
        · rw [if_pos he, if_neg (by omega), if_neg (by show ¬ (m : Int) > 9223372036854775807; omega), if_neg (by rintro (q | q); exact q he; omega)]
          exact Ev.now _
        · rw [if_neg he, if_pos (.inl he)]
          exact Ev.now _
  · refine Ev.step (f := fun k => (pouchref01_Text.f k (-(m : Int))).bind fun t => if t.toList = s then (if -(m : Int) < 0 then some (0, false) else (if -(m : Int) > big then some (0, false) else some (-(m : Int), true))) else some (0, false)) (fun k => ?_) ?_
    · simp only [pouchref01_Parse.j3, Bool.not_true, Bool.false_and]
      rw [bb_list, if_neg (by simp), if_pos trivial]
    · refine Ev.bind (text_ev (-(m : Int)) (by omega) (by omega)) ?_
      rw [bb_list]
      have hC : parseC s true (some m) = if Lib.itoa (-(m : Int)) ≠ s ∨ -(m : Int) < 0 then (0, false) else (-(m : Int), true) := by unfold parseC; simp
      rw [hC]
      by_cases he : Lib.itoa (-(m : Int)) = s
      · rw [if_pos he]
        by_cases h0 : -(m : Int) < 0
        · rw [if_pos h0, if_pos (.inr h0)]; exact Ev.now _
        · rw [if_neg h0, if_neg (by show ¬ -(m : Int) > 9223372036854775807; omega), if_neg (by rintro (q | q); exact q he; exact h0 q)]; exact Ev.now _
      · rw [if_neg he, if_pos (.inl he)]
        exact Ev.now _
theorem parse_l0 (s d : Bs) (neg : Bool) (hd : d.length ≤ 1000000000) : ∀ (j i m : Nat), j + i = d.length → m ≤ 9223372036854775808 →
    Ev (fun k => pouchref01_Parse.l0 k (BB s) 0 big neg (BB d) (-(m : Int)) (i : Int)) (parseC s neg (valF (d.drop i) m))
  | 0, i, m, hj, hm => by
    have : d.drop i = [] := List.drop_eq_nil_of_le (by omega)
    rw [this]
    have he : ((-(m : Int)) == -9223372036854775808) = decide (m = 9223372036854775808) := by
      by_cases h : m = 9223372036854775808
      · subst h; rfl
      · rw [decide_eq_false h]
        have : ¬ (-(m : Int)) = -9223372036854775808 := by omega
        simpa using this
    refine Ev.step (f := fun k => pouchref01_Parse.j3 k (BB s) 0 big neg (-(m : Int)) (!neg && decide (m = 9223372036854775808))) (fun k => ?_) (parse_j3 s neg m hm)
    simp only [pouchref01_Parse.l0]
    rw [bb_size, if_neg (by omega), he]
    cases neg
    · rw [if_neg (by simp)]; simp
    · rw [if_pos rfl]; simp
  | j + 1, i, m, hj, hm => by
    have hi : i < d.length := by omega
    have hdr : d.drop i = d[i] :: d.drop (i + 1) := List.drop_eq_getElem_cons hi
    have hw : wrap64 ((i : Int) + 1) = ((i + 1 : Nat) : Int) := by rw [w64 _ (by omega) (by omega)]; omega
    have hc := d[i].toNat_lt
    have hw1 : wrap64 (wrap64 (bt (BB d) (i : Int)) - 48) = (d[i].toNat : Int) - 48 := by
      rw [bt_nat d i hi, w64 (d[i].toNat : Int) (by omega) (by omega), w64 _ (by omega) (by omega)]
    have hdig := isDig_iff d[i]
    rw [hdr]
    generalize d[i] = c at *
    by_cases h1 : (c.toNat : Int) - 48 < 0
    · have hn : isDig c = false := by
        rw [Bool.eq_false_iff]; intro q; have := hdig.1 q; omega
      refine Ev.step (f := fun _ => some (0, false)) (fun k => ?_) ?_
      · simp only [pouchref01_Parse.l0]
        rw [bb_size, if_pos (by omega), if_pos (by omega), hw1, if_pos h1]
      · simp only [valF, hn]; exact Ev.now _
    · by_cases h2 : (c.toNat : Int) - 48 > 9
      · have hn : isDig c = false := by
          rw [Bool.eq_false_iff]; intro q; have := hdig.1 q; omega
        refine Ev.step (f := fun _ => some (0, false)) (fun k => ?_) ?_
        · simp only [pouchref01_Parse.l0]
          rw [bb_size, if_pos (by omega), if_pos (by omega), hw1, if_neg h1, if_pos h2]
        · simp only [valF, hn]; exact Ev.now _
      · have hy : isDig c = true := hdig.2 (by omega)
        obtain ⟨u, hu⟩ : ∃ u, u = c.toNat - 48 := ⟨_, rfl⟩
        have hcu : (c.toNat : Int) - 48 = (u : Int) := by omega
        have hu9 : u ≤ 9 := by omega
        have hq : wrap64 (Int.tdiv (wrap64 ((-9223372036854775808) + (u : Int))) 10) = -(((9223372036854775808 - u) / 10 : Nat) : Int) := by
          rw [w64 ((-9223372036854775808) + (u : Int)) (by omega) (by omega)]
          have e : (-9223372036854775808 : Int) + (u : Int) = -((9223372036854775808 - u : Nat) : Int) := by omega
          rw [e, Int.neg_tdiv, Int.tdiv_eq_ediv_of_nonneg (by omega)]
          rw [w64 _ (by omega) (by omega)]
          omega
        simp only [valF, hy, true_and, ← hu]
        by_cases h3 : 10 * m + u ≤ 9223372036854775808
        · rw [if_pos h3]
          have hw2 : wrap64 (wrap64 (10 * -(m : Int)) - (u : Int)) = -((10 * m + u : Nat) : Int) := by
            rw [w64 (10 * -(m : Int)) (by omega) (by omega), w64 _ (by omega) (by omega)]; omega
          refine Ev.step (f := fun k => pouchref01_Parse.l0 k (BB s) 0 big neg (BB d) (-((10 * m + u : Nat) : Int)) ((i + 1 : Nat) : Int)) (fun k => ?_) (parse_l0 s d neg hd j (i + 1) (10 * m + u) (by omega) h3)
          simp only [pouchref01_Parse.l0]
          rw [bb_size, if_pos (by omega), if_pos (by omega), hw1, if_neg h1, if_neg h2, hcu, hq, if_neg (by omega), hw2, hw]
        · rw [if_neg h3]
          refine Ev.step (f := fun _ => some (0, false)) (fun k => ?_) (Ev.now _)
          simp only [pouchref01_Parse.l0]
          rw [bb_size, if_pos (by omega), if_pos (by omega), hw1, if_neg h1, if_neg h2, hcu, hq, if_pos (by omega)]
theorem parse_ev (s : Bs) (hs : s.length ≤ 1000000000) : Ev (fun k => pouchref01_Parse.f k (BB s) 0 big) (parseB s) := by
  rw [parseB_eq]
  have hf : ∀ k, pouchref01_Parse.f k (BB s) 0 big = pouchref01_Parse.j0 k (BB s) 0 big (isNeg s) := by
    intro k
    unfold pouchref01_Parse.f
    rw [bb_size]
    cases s with
    | nil => rw [if_neg (by simp)]; rfl
    | cons x t =>
      have hb : bt (BB (x :: t)) 0 = (x.toNat : Int) := bt_nat (x :: t) 0 (by simp)
      rw [if_pos (by simp), if_pos (by simp), hb]
      congr 1
      unfold isNeg
      have := byte_eq x 45
      by_cases h : x = 45
      · subst h; rfl
      · have h' : ¬ (x.toNat : Int) = 45 := fun q => h (this.1 q)
        have e1 : ((x.toNat : Int) == 45) = false := by simpa using h'
        have e2 : ((x :: t).head? == some 45) = false := by simpa using h
        rw [e1, e2]
  refine Ev.congr hf ?_
  have go : ∀ (d : Bs), d.length ≤ 1000000000 → Ev (fun k => pouchref01_Parse.j1 k (BB s) 0 big (isNeg s) (BB d)) (parseC s (isNeg s) (valF d 0)) := fun d hd =>
    Ev.step (f := fun k => pouchref01_Parse.l0 k (BB s) 0 big (isNeg s) (BB d) (-((0 : Nat) : Int)) ((0 : Nat) : Int)) (fun k => by simp only [pouchref01_Parse.j1]; rfl) (parse_l0 s d (isNeg s) hd d.length 0 0 (by omega) (by omega))
  cases hn : isNeg s
  · have hb : signB s = s := by unfold signB; rw [hn]; rfl
    rw [hb]
    rw [hn] at go
    exact Ev.step (f := fun k => pouchref01_Parse.j1 k (BB s) 0 big false (BB s)) (fun k => by simp only [pouchref01_Parse.j0]; rfl) (go s hs)
  · have hb : signB s = s.drop 1 := by unfold signB; rw [hn]; rfl
    have h1 : 1 ≤ s.length := by
      cases s with
      | nil => cases hn
      | cons x t => simp
    rw [hb]
    rw [hn] at go
    refine Ev.step (f := fun k => pouchref01_Parse.j1 k (BB s) 0 big true (BB (s.drop 1))) (fun k => ?_) (go (s.drop 1) (by rw [List.length_drop]; omega))
    simp only [pouchref01_Parse.j0, if_true]
    rw [bb_size, if_pos (by omega), bb_ext]
    simp

/-! ### options -/
def givT : Nat → Bs → Int → Nat → Nat → Int × Bool
  | 0, _, _, _, _ => (0, false)
  | n + 1, s, z, a, b =>
    if s = [] then (z, decide (a ≤ 1) && decide (b ≤ 1)) else
    if nb (s.headD 0) then (0, false) else
    if (behindB ((Lib.trimS s blanks).takeWhile nb) sizeE).2 then
      (if (parseB (behindB ((Lib.trimS s blanks).takeWhile nb) sizeE).1).2 then givT n ((Lib.trimS s blanks).dropWhile nb) (parseB (behindB ((Lib.trimS s blanks).takeWhile nb) sizeE).1).1 (a + 1) b else (0, false))
    else if upL ((Lib.trimS s blanks).takeWhile nb) = body7 ∨ upL ((Lib.trimS s blanks).takeWhile nb) = body8 then givT n ((Lib.trimS s blanks).dropWhile nb) z a (b + 1) else (0, false)
theorem giv_two : ∀ (n : Nat) (s : Bs) (z : Int) (a b : Nat), givF n s z a b = if (givT n s z a b).2 then some (givT n s z a b).1 else none
  | 0, _, _, _, _ => rfl
  | n + 1, s, z, a, b => by
    unfold givF givT
    by_cases h0 : s = []
    · rw [if_pos h0, if_pos h0]
      by_cases h : a ≤ 1 ∧ b ≤ 1
      · rw [if_pos h, if_pos (by simp [h])]
      · rw [if_neg h, if_neg (by simpa using h)]
    · rw [if_neg h0, if_neg h0]
      split
      · rfl
      · split
        · split
          · exact giv_two n _ _ _ _
          · rfl
        · split
          · exact giv_two n _ _ _ _
          · rfl
theorem behind_len (p b : Bs) : (behindB p b).1.length ≤ p.length := by unfold behindB; split <;> (try split) <;> simp
theorem given_l1 (t : Bs) (ht : t.length ≤ 1000000000) (z a b : Int) (r : Int × Bool) (hr : Ev (fun k => pouchref22_given.j2 k (BB t) z a b ((t.takeWhile nb).length : Int)) r) :
    ∀ (d i : Nat), d + i = (t.takeWhile nb).length → Ev (fun k => pouchref22_given.l1 k (BB t) z a b (i : Int)) r := by
  have hlen := take_drop_len nb t
  have hin : ∀ (j : Nat) (h : j < t.length), j < (t.takeWhile nb).length → blanks.contains t[j] = false := by
    intro j h hj
    obtain ⟨x, e1, e2⟩ := nb_at t j hj
    rw [List.getElem?_eq_getElem h] at e1
    rw [Option.some.inj e1]; exact e2
  have hat : ∀ (h : (t.takeWhile nb).length < t.length), blanks.contains t[(t.takeWhile nb).length] = true := by
    intro h
    obtain ⟨x, e1, e2⟩ := nb_end t h
    rw [List.getElem?_eq_getElem h] at e1
    rw [Option.some.inj e1]; exact e2
  intro d
  induction d with
  | zero =>
    intro i hd
    have hi : i = (t.takeWhile nb).length := by omega
    rw [← hi] at hr hat
    by_cases h : i < t.length
    · refine Ev.step (f := fun k => pouchref22_given.j2 k (BB t) z a b (i : Int)) (fun k => ?_) hr
      simp only [pouchref22_given.l1]
      rw [bb_size, if_pos (by omega), if_pos (by omega), bt_nat t i h, blank_f, hat h]
      rfl
    · refine Ev.step (f := fun k => pouchref22_given.j2 k (BB t) z a b (i : Int)) (fun k => ?_) hr
      simp only [pouchref22_given.l1]
      rw [bb_size, if_neg (by omega)]
  | succ d ih =>
    intro i hd
    have h : i < t.length := by omega
    have hw : wrap64 ((i : Int) + 1) = ((i + 1 : Nat) : Int) := by rw [w64 _ (by omega) (by omega)]; omega
    refine Ev.step (f := fun k => pouchref22_given.l1 k (BB t) z a b ((i + 1 : Nat) : Int)) (fun k => ?_) (ih (i + 1) (by omega))
    simp only [pouchref22_given.l1]
    rw [bb_size, if_pos (by omega), if_pos (by omega), bt_nat t i h, blank_f, hin i h (by omega), hw]
    rfl
theorem given_l0 : ∀ (n : Nat) (s : Bs) (z : Int) (a b : Nat), s.length < n → a + b + s.length ≤ 1000000000 → Ev (fun k => pouchref22_given.l0 k (BB s) z (a : Int) (b : Int)) (givT n s z a b)
  | 0, _, _, _, _, h, _ => absurd h (Nat.not_lt_zero _)
  | n + 1, s, z, a, b, h, hab => by
    have hwa : wrap64 ((a : Int) + 1) = ((a + 1 : Nat) : Int) := by rw [w64 _ (by omega) (by omega)]; omega
    have hwb : wrap64 ((b : Int) + 1) = ((b + 1 : Nat) : Int) := by rw [w64 _ (by omega) (by omega)]; omega
    unfold givT
    by_cases h0 : s = []
    · subst h0
      rw [if_pos rfl]
      refine Ev.step (f := fun _ => some (z, decide (a ≤ 1) && decide (b ≤ 1))) (fun k => ?_) (Ev.now _)
      simp only [pouchref22_given.l0]
      rw [if_pos (bb_list [])]
      by_cases ha : a ≤ 1
      · rw [if_pos (by omega), decide_eq_true ha, Bool.true_and]
        congr 2
        rw [decide_eq_decide]; omega
      · rw [if_neg (by omega), decide_eq_false ha, Bool.false_and]
    · rw [if_neg h0]
      obtain ⟨x, u, rfl⟩ := List.exists_cons_of_ne_nil h0
      have hb0 : bt (BB (x :: u)) 0 = (x.toNat : Int) := bt_nat (x :: u) 0 (by simp)
      have hh : (x :: u).headD 0 = x := rfl
      rw [hh]
      cases hx : blanks.contains x
      · have hnb : nb x = true := by unfold nb; rw [hx]; rfl
        rw [if_pos hnb]
        refine Ev.step (f := fun _ => some (0, false)) (fun k => ?_) (Ev.now _)
        simp only [pouchref22_given.l0]
        rw [if_neg (by rw [bb_list]; simp), bb_size, if_pos (by simp), hb0, blank_f, hx]
        rfl
      · have hnb : nb x = false := by unfold nb; rw [hx]; rfl
        rw [if_neg (by rw [hnb]; simp)]
        have hlt := trim_len (x :: u)
        have hlen := take_drop_len nb (Lib.trimS (x :: u) blanks)
        refine Ev.step (f := fun k => (pouchref22_trim.f k (BB (x :: u))).bind fun t => pouchref22_given.l1 k t z (a : Int) (b : Int) 0) (fun k => ?_) ?_
        · simp only [pouchref22_given.l0]
          rw [if_neg (by rw [bb_list]; simp), bb_size, if_pos (by simp), hb0, blank_f, hx]
          rfl
        · refine Ev.bind (trim_ev (x :: u) (by omega)) ?_
          refine given_l1 (Lib.trimS (x :: u) blanks) (by omega) z a b _ ?_ (((Lib.trimS (x :: u) blanks).takeWhile nb).length) 0 (by omega)
          have hcut := nb_cut (Lib.trimS (x :: u) blanks)
          have e1 : (BB (Lib.trimS (x :: u) blanks)).extract 0 ((((Lib.trimS (x :: u) blanks).takeWhile nb).length : Nat) : Int).toNat = BB ((Lib.trimS (x :: u) blanks).takeWhile nb) := by
            rw [bb_ext, List.drop_zero]
            exact congrArg BB hcut.1
          have e2 : (BB (Lib.trimS (x :: u) blanks)).extract ((((Lib.trimS (x :: u) blanks).takeWhile nb).length : Nat) : Int).toNat (Lib.trimS (x :: u) blanks).length = BB ((Lib.trimS (x :: u) blanks).dropWhile nb) := by
            rw [bb_ext, List.take_length]
            exact congrArg BB hcut.2
          clear hcut
          generalize Lib.trimS (x :: u) blanks = t at *
          generalize t.takeWhile nb = p at *
          generalize t.dropWhile nb = q at *
          clear hb0
          have hbl := behind_len p sizeE
          have hp0 : 0 < p.length → q.length < (x :: u).length := by omega
          refine Ev.step (f := fun k => (pouchref22_behind.f k (BB p) (BB sizeE)).bind fun bt230 => (if bt230.2 = true then ((pouchref01_Parse.f k bt230.1 0 9223372036854775807).bind fun bt232 => (if bt232.2 = true then (pouchref22_given.l0 k (BB q) bt232.1 ((a + 1 : Nat) : Int) (b : Int)) else (some (0, false)))) else ((pouchref22_great.f k (BB p)).bind fun t234 => (if t234.toList = ([66, 79, 68, 89, 61, 55, 66, 73, 84] : List UInt8) then (pouchref22_given.l0 k (BB q) z (a : Int) ((b + 1 : Nat) : Int)) else ((pouchref22_great.f k (BB p)).bind fun t235 => (if t235.toList = ([66, 79, 68, 89, 61, 56, 66, 73, 84, 77, 73, 77, 69] : List UInt8) then (pouchref22_given.l0 k (BB q) z (a : Int) ((b + 1 : Nat) : Int)) else (some (0, false)))))))) (fun k => ?_) ?_
          · simp only [pouchref22_given.j2]
            rw [bb_size, if_pos (by omega), if_pos (by omega), e1, e2, hwa, hwb]
            rfl
          · refine Ev.bind (behind_ev p sizeE (by omega)) ?_
            cases hz : (behindB p sizeE).2
            · rw [if_neg (by simp)]
              refine Ev.congr (f := fun k => (pouchref22_great.f k (BB p)).bind fun t234 => (if t234.toList = ([66, 79, 68, 89, 61, 55, 66, 73, 84] : List UInt8) then (pouchref22_given.l0 k (BB q) z (a : Int) ((b + 1 : Nat) : Int)) else ((pouchref22_great.f k (BB p)).bind fun t235 => (if t235.toList = ([66, 79, 68, 89, 61, 56, 66, 73, 84, 77, 73, 77, 69] : List UInt8) then (pouchref22_given.l0 k (BB q) z (a : Int) ((b + 1 : Nat) : Int)) else (some (0, false)))))) (fun k => by dsimp only; rw [if_neg (by simp)]) ?_
              refine Ev.bind (great_ev p (by omega)) ?_
              rw [bb_list]
              by_cases h7 : upL p = body7
              · rw [if_pos (.inl h7)]
                have hpl : 0 < p.length := by
                  cases p with
                  | nil => cases h7
                  | cons y v => simp
                exact Ev.congr (fun k => by rw [if_pos (show upL p = [66, 79, 68, 89, 61, 55, 66, 73, 84] from h7)]) (given_l0 n q z a (b + 1) (by have := hp0 hpl; omega) (by have := hp0 hpl; omega))
              · refine Ev.congr (f := fun k => (pouchref22_great.f k (BB p)).bind fun t235 => (if t235.toList = ([66, 79, 68, 89, 61, 56, 66, 73, 84, 77, 73, 77, 69] : List UInt8) then (pouchref22_given.l0 k (BB q) z (a : Int) ((b + 1 : Nat) : Int)) else (some (0, false)))) (fun k => by rw [if_neg (show ¬ upL p = [66, 79, 68, 89, 61, 55, 66, 73, 84] from h7)]) ?_
                refine Ev.bind (great_ev p (by omega)) ?_
                rw [bb_list]
                by_cases h8 : upL p = body8
                · rw [if_pos (.inr h8)]
                  have hpl : 0 < p.length := by
                    cases p with
                    | nil => cases h8
                    | cons y v => simp
                  exact Ev.congr (fun k => by rw [if_pos (show upL p = [66, 79, 68, 89, 61, 56, 66, 73, 84, 77, 73, 77, 69] from h8)]) (given_l0 n q z a (b + 1) (by have := hp0 hpl; omega) (by have := hp0 hpl; omega))
                · rw [if_neg (fun q => q.elim h7 h8)]
                  exact Ev.congr (f := fun _ => some (0, false)) (fun k => by rw [if_neg (show ¬ upL p = [66, 79, 68, 89, 61, 56, 66, 73, 84, 77, 73, 77, 69] from h8)]) (Ev.now _)
            · rw [if_pos rfl]
              have hpl : 0 < p.length := by
                have := (opt_size p hz).2.2
                exact List.length_pos_iff.2 this
              refine Ev.congr (f := fun k => (pouchref01_Parse.f k (BB (behindB p sizeE).1) 0 9223372036854775807).bind fun bt232 => (if bt232.2 = true then (pouchref22_given.l0 k (BB q) bt232.1 ((a + 1 : Nat) : Int) (b : Int)) else (some (0, false)))) (fun k => by dsimp only; rw [if_pos rfl]) ?_
              refine Ev.bind (parse_ev (behindB p sizeE).1 (by omega)) ?_
              cases hq : (parseB (behindB p sizeE).1).2
              · rw [if_neg (by simp)]
                exact Ev.congr (f := fun _ => some (0, false)) (fun k => by rw [if_neg (by simp)]) (Ev.now _)
              · rw [if_pos rfl]
                exact Ev.congr (fun k => by rw [if_pos rfl]) (given_l0 n q _ (a + 1) b (by have := hp0 hpl; omega) (by have := hp0 hpl; omega))
def givW (y : Bs) : Int × Bool := givT (y.length + 1) y 0 0 0
theorem giv_w (y : Bs) : givB y = if (givW y).2 then some (givW y).1 else none := giv_two _ _ _ _ _
theorem givenR_calls (y : Bs) (hy : y.length ≤ 1000000000) (w : World) : Calls Tryz.prog 102 #[S y] w fun e w' => e = .returned (.tuple #[.int .i64 (givW y).1, .bool (givW y).2]) ∧ Below w.heap.size w w' := by
  have he : Ev (fun k => pouchref22_given.f k (BB y)) (givW y) := given_l0 (y.length + 1) y 0 0 0 (by omega) (by omega)
  obtain ⟨k, hk⟩ := he.rounds
  exact pouchref22_given.calls k _ _ _ w hk
end Go.Proofs.YtapanjfheddfnaaGreatDoor
end
section
/- The contract of the reference's reply. -/
namespace Go.Proofs.YtapanjfheddfnaaGreatDoor
open Go.RowKit
attribute [local go_sem high] ext_to ext_from
attribute [local go_sem] ext_list app_list size_list

set_option maxHeartbeats 1000000 in
set_option maxRecDepth 100000 in
theorem replyR_220 (w : World) : Calls Tryz.prog 34 #[.int .i64 220] w fun e w' => e = .returned (S (replyL 220)) ∧ Below w.heap.size w w' := by
  have HW : Hid (replyL 220 = Lib.itoa 220 ++ [32] ++ sayL 220 ++ [13, 10]) := rfl
  have HI : Hid (Lib.itoa 220 = [50, 50, 48]) := by unfold Hid; decide +kernel
  have HS : Hid (sayL 220 = [112, 111, 117, 99, 104, 32, 114, 101, 97, 100, 121]) := by unfold Hid; decide +kernel
  rw [HW.out, HI.out, HS.out]
  go_enter Tryz.func34, Tryz.ntmps34
  go_wp2_with fail
  refine (textR_calls 220 (by decide) (by decide) _).mono ?_
  rw [HI.out]
  rintro e w1 ⟨rfl, hb1⟩
  go_wp2
  go_ret
  exact ⟨rfl, hb1⟩

set_option maxHeartbeats 1000000 in
set_option maxRecDepth 100000 in
theorem replyR_221 (w : World) : Calls Tryz.prog 34 #[.int .i64 221] w fun e w' => e = .returned (S (replyL 221)) ∧ Below w.heap.size w w' := by
  have HW : Hid (replyL 221 = Lib.itoa 221 ++ [32] ++ sayL 221 ++ [13, 10]) := rfl
  have HI : Hid (Lib.itoa 221 = [50, 50, 49]) := by unfold Hid; decide +kernel
  have HS : Hid (sayL 221 = [66, 121, 101]) := by unfold Hid; decide +kernel
  rw [HW.out, HI.out, HS.out]
  go_enter Tryz.func34, Tryz.ntmps34
  go_wp2_with fail
  refine (textR_calls 221 (by decide) (by decide) _).mono ?_
  rw [HI.out]
  rintro e w1 ⟨rfl, hb1⟩
  go_wp2
  go_ret
  exact ⟨rfl, hb1⟩

set_option maxHeartbeats 1000000 in
set_option maxRecDepth 100000 in
theorem replyR_250 (w : World) : Calls Tryz.prog 34 #[.int .i64 250] w fun e w' => e = .returned (S (replyL 250)) ∧ Below w.heap.size w w' := by
  have HW : Hid (replyL 250 = Lib.itoa 250 ++ [32] ++ sayL 250 ++ [13, 10]) := rfl
  have HI : Hid (Lib.itoa 250 = [50, 53, 48]) := by unfold Hid; decide +kernel
  have HS : Hid (sayL 250 = [79, 75]) := by unfold Hid; decide +kernel
  rw [HW.out, HI.out, HS.out]
  go_enter Tryz.func34, Tryz.ntmps34
  go_wp2_with fail
  refine (textR_calls 250 (by decide) (by decide) _).mono ?_
  rw [HI.out]
  rintro e w1 ⟨rfl, hb1⟩
  go_wp2
  go_ret
  exact ⟨rfl, hb1⟩

set_option maxHeartbeats 1000000 in
set_option maxRecDepth 100000 in
theorem replyR_252 (w : World) : Calls Tryz.prog 34 #[.int .i64 252] w fun e w' => e = .returned (S (replyL 252)) ∧ Below w.heap.size w w' := by
  have HW : Hid (replyL 252 = Lib.itoa 252 ++ [32] ++ sayL 252 ++ [13, 10]) := rfl
  have HI : Hid (Lib.itoa 252 = [50, 53, 50]) := by unfold Hid; decide +kernel
  have HS : Hid (sayL 252 = [67, 97, 110, 110, 111, 116, 32, 118, 101, 114, 105, 102, 121, 32, 117, 115, 101, 114]) := by unfold Hid; decide +kernel
  rw [HW.out, HI.out, HS.out]
  go_enter Tryz.func34, Tryz.ntmps34
  go_wp2_with fail
  refine (textR_calls 252 (by decide) (by decide) _).mono ?_
  rw [HI.out]
  rintro e w1 ⟨rfl, hb1⟩
  go_wp2
  go_ret
  exact ⟨rfl, hb1⟩

set_option maxHeartbeats 1000000 in
set_option maxRecDepth 100000 in
theorem replyR_354 (w : World) : Calls Tryz.prog 34 #[.int .i64 354] w fun e w' => e = .returned (S (replyL 354)) ∧ Below w.heap.size w w' := by
  have HW : Hid (replyL 354 = Lib.itoa 354 ++ [32] ++ sayL 354 ++ [13, 10]) := rfl
  have HI : Hid (Lib.itoa 354 = [51, 53, 52]) := by unfold Hid; decide +kernel
  have HS : Hid (sayL 354 = [83, 116, 97, 114, 116, 32, 109, 97, 105, 108, 32, 105, 110, 112, 117, 116]) := by unfold Hid; decide +kernel
  rw [HW.out, HI.out, HS.out]
  go_enter Tryz.func34, Tryz.ntmps34
  go_wp2_with fail
  refine (textR_calls 354 (by decide) (by decide) _).mono ?_
  rw [HI.out]
  rintro e w1 ⟨rfl, hb1⟩
  go_wp2
  go_ret
  exact ⟨rfl, hb1⟩

set_option maxHeartbeats 1000000 in
set_option maxRecDepth 100000 in
theorem replyR_451 (w : World) : Calls Tryz.prog 34 #[.int .i64 451] w fun e w' => e = .returned (S (replyL 451)) ∧ Below w.heap.size w w' := by
  have HW : Hid (replyL 451 = Lib.itoa 451 ++ [32] ++ sayL 451 ++ [13, 10]) := rfl
  have HI : Hid (Lib.itoa 451 = [52, 53, 49]) := by unfold Hid; decide +kernel
  have HS : Hid (sayL 451 = [76, 111, 99, 97, 108, 32, 101, 114, 114, 111, 114]) := by unfold Hid; decide +kernel
  rw [HW.out, HI.out, HS.out]
  go_enter Tryz.func34, Tryz.ntmps34
  go_wp2_with fail
  refine (textR_calls 451 (by decide) (by decide) _).mono ?_
  rw [HI.out]
  rintro e w1 ⟨rfl, hb1⟩
  go_wp2
  go_ret
  exact ⟨rfl, hb1⟩

set_option maxHeartbeats 1000000 in
set_option maxRecDepth 100000 in
theorem replyR_452 (w : World) : Calls Tryz.prog 34 #[.int .i64 452] w fun e w' => e = .returned (S (replyL 452)) ∧ Below w.heap.size w w' := by
  have HW : Hid (replyL 452 = Lib.itoa 452 ++ [32] ++ sayL 452 ++ [13, 10]) := rfl
  have HI : Hid (Lib.itoa 452 = [52, 53, 50]) := by unfold Hid; decide +kernel
  have HS : Hid (sayL 452 = [73, 110, 115, 117, 102, 102, 105, 99, 105, 101, 110, 116, 32, 115, 116, 111, 114, 97, 103, 101]) := by unfold Hid; decide +kernel
  rw [HW.out, HI.out, HS.out]
  go_enter Tryz.func34, Tryz.ntmps34
  go_wp2_with fail
  refine (textR_calls 452 (by decide) (by decide) _).mono ?_
  rw [HI.out]
  rintro e w1 ⟨rfl, hb1⟩
  go_wp2
  go_ret
  exact ⟨rfl, hb1⟩

set_option maxHeartbeats 1000000 in
set_option maxRecDepth 100000 in
theorem replyR_500 (w : World) : Calls Tryz.prog 34 #[.int .i64 500] w fun e w' => e = .returned (S (replyL 500)) ∧ Below w.heap.size w w' := by
  have HW : Hid (replyL 500 = Lib.itoa 500 ++ [32] ++ sayL 500 ++ [13, 10]) := rfl
  have HI : Hid (Lib.itoa 500 = [53, 48, 48]) := by unfold Hid; decide +kernel
  have HS : Hid (sayL 500 = [83, 121, 110, 116, 97, 120, 32, 101, 114, 114, 111, 114]) := by unfold Hid; decide +kernel
  rw [HW.out, HI.out, HS.out]
  go_enter Tryz.func34, Tryz.ntmps34
  go_wp2_with fail
  refine (textR_calls 500 (by decide) (by decide) _).mono ?_
  rw [HI.out]
  rintro e w1 ⟨rfl, hb1⟩
  go_wp2
  go_ret
  exact ⟨rfl, hb1⟩

set_option maxHeartbeats 1000000 in
set_option maxRecDepth 100000 in
theorem replyR_501 (w : World) : Calls Tryz.prog 34 #[.int .i64 501] w fun e w' => e = .returned (S (replyL 501)) ∧ Below w.heap.size w w' := by
  have HW : Hid (replyL 501 = Lib.itoa 501 ++ [32] ++ sayL 501 ++ [13, 10]) := rfl
  have HI : Hid (Lib.itoa 501 = [53, 48, 49]) := by unfold Hid; decide +kernel
  have HS : Hid (sayL 501 = [83, 121, 110, 116, 97, 120, 32, 101, 114, 114, 111, 114, 32, 105, 110, 32, 112, 97, 114, 97, 109, 101, 116, 101, 114, 115]) := by unfold Hid; decide +kernel
  rw [HW.out, HI.out, HS.out]
  go_enter Tryz.func34, Tryz.ntmps34
  go_wp2_with fail
  refine (textR_calls 501 (by decide) (by decide) _).mono ?_
  rw [HI.out]
  rintro e w1 ⟨rfl, hb1⟩
  go_wp2
  go_ret
  exact ⟨rfl, hb1⟩

set_option maxHeartbeats 1000000 in
set_option maxRecDepth 100000 in
theorem replyR_503 (w : World) : Calls Tryz.prog 34 #[.int .i64 503] w fun e w' => e = .returned (S (replyL 503)) ∧ Below w.heap.size w w' := by
  have HW : Hid (replyL 503 = Lib.itoa 503 ++ [32] ++ sayL 503 ++ [13, 10]) := rfl
  have HI : Hid (Lib.itoa 503 = [53, 48, 51]) := by unfold Hid; decide +kernel
  have HS : Hid (sayL 503 = [66, 97, 100, 32, 115, 101, 113, 117, 101, 110, 99, 101, 32, 111, 102, 32, 99, 111, 109, 109, 97, 110, 100, 115]) := by unfold Hid; decide +kernel
  rw [HW.out, HI.out, HS.out]
  go_enter Tryz.func34, Tryz.ntmps34
  go_wp2_with fail
  refine (textR_calls 503 (by decide) (by decide) _).mono ?_
  rw [HI.out]
  rintro e w1 ⟨rfl, hb1⟩
  go_wp2
  go_ret
  exact ⟨rfl, hb1⟩

set_option maxHeartbeats 1000000 in
set_option maxRecDepth 100000 in
theorem replyR_552 (w : World) : Calls Tryz.prog 34 #[.int .i64 552] w fun e w' => e = .returned (S (replyL 552)) ∧ Below w.heap.size w w' := by
  have HW : Hid (replyL 552 = Lib.itoa 552 ++ [32] ++ sayL 552 ++ [13, 10]) := rfl
  have HI : Hid (Lib.itoa 552 = [53, 53, 50]) := by unfold Hid; decide +kernel
  have HS : Hid (sayL 552 = [77, 101, 115, 115, 97, 103, 101, 32, 115, 105, 122, 101, 32, 101, 120, 99, 101, 101, 100, 115, 32, 108, 105, 109, 105, 116]) := by unfold Hid; decide +kernel
  rw [HW.out, HI.out, HS.out]
  go_enter Tryz.func34, Tryz.ntmps34
  go_wp2_with fail
  refine (textR_calls 552 (by decide) (by decide) _).mono ?_
  rw [HI.out]
  rintro e w1 ⟨rfl, hb1⟩
  go_wp2
  go_ret
  exact ⟨rfl, hb1⟩

set_option maxHeartbeats 1000000 in
set_option maxRecDepth 100000 in
theorem replyR_554 (w : World) : Calls Tryz.prog 34 #[.int .i64 554] w fun e w' => e = .returned (S (replyL 554)) ∧ Below w.heap.size w w' := by
  have HW : Hid (replyL 554 = Lib.itoa 554 ++ [32] ++ sayL 554 ++ [13, 10]) := rfl
  have HI : Hid (Lib.itoa 554 = [53, 53, 52]) := by unfold Hid; decide +kernel
  have HS : Hid (sayL 554 = [84, 114, 97, 110, 115, 97, 99, 116, 105, 111, 110, 32, 102, 97, 105, 108, 101, 100]) := by unfold Hid; decide +kernel
  rw [HW.out, HI.out, HS.out]
  go_enter Tryz.func34, Tryz.ntmps34
  go_wp2_with fail
  refine (textR_calls 554 (by decide) (by decide) _).mono ?_
  rw [HI.out]
  rintro e w1 ⟨rfl, hb1⟩
  go_wp2
  go_ret
  exact ⟨rfl, hb1⟩
end Go.Proofs.YtapanjfheddfnaaGreatDoor
end
