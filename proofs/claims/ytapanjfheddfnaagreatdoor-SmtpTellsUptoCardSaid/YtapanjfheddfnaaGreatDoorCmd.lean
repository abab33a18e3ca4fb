/- A command line. -/
import Derived.Test.YtapanjfheddfnaaGreatDoorMail2
namespace Go.Proofs.YtapanjfheddfnaaGreatDoor
open Go.RowKit Go.Shelf
attribute [local go_sem high] ext_to ext_from
attribute [local go_sem] ext_list app_list size_list

def bareL (l : Bs) : Bs := if Lib.hasSuffix l [10] then Lib.trimSuffix (l.take (l.length - 1)) [13] else l
theorem trimSuffix_le (l q : Bs) : (Lib.trimSuffix l q).length ≤ l.length := by unfold Lib.trimSuffix; split <;> simp
theorem bareL_le (l : Bs) : (bareL l).length ≤ l.length := by
  unfold bareL
  split
  · have := trimSuffix_le (l.take (l.length - 1)) [13]
    simp only [List.length_take] at this
    omega
  · exact Nat.le_refl _
theorem suffix_len {l q : Bs} (h : Lib.hasSuffix l q = true) : q.length ≤ l.length := by
  have := List.isSuffixOf_iff_suffix.1 h
  exact this.length_le
set_option maxRecDepth 100000 in
theorem bareText_calls (l : Bs) (hs : l.length ≤ 1000000) (w : World) : Calls Tryz.prog 57 #[S l] w fun e w' => e = .returned (S (bareL l)) ∧ w' = w := by
  cases hsf : Lib.hasSuffix l [10]
  · have HE : Hid (bareL l = l) := by unfold Hid bareL; rw [hsf]; rfl
    have HS := Lib.hid hsf
    clear hsf
    rw [HE.out]
    go_enter Tryz.func57, Tryz.ntmps57
    go_wp2_with fail
    refine (Tryz.strings_HasSuffix ⟨l.toArray⟩ ⟨#[10]⟩ w (by show l.length ≤ _; omega)).mono ?_
    show ∀ e w', e = Ending.returned (.bool (Lib.hasSuffix l [10])) ∧ _ → _
    rw [HS.out]
    rintro e w1 ⟨rfl, hw1⟩
    rw [hw1]
    clear hw1 w1
    go_wp2
    go_ret
    exact ⟨rfl, rfl⟩
  · have HE : Hid (bareL l = Lib.trimSuffix (l.take (l.length - 1)) [13]) := by unfold Hid bareL; rw [hsf]; rfl
    have hl1 : 1 ≤ l.length := suffix_len hsf
    have HS := Lib.hid hsf
    clear hsf
    rw [HE.out]
    obtain ⟨t, ht⟩ : ∃ t, l.take (l.length - 1) = t := ⟨_, rfl⟩
    have htl : t.length ≤ 1000000 := by rw [← ht, List.length_take]; omega
    have hwr : IntKind.i64.wrap ((l.length : Int) - 1) = ((l.length - 1 : Nat) : Int) := by rw [IntWalk.i64_in _ ⟨by omega, by omega⟩]; omega
    have hb0 : (0 : Int) ≤ ((l.length - 1 : Nat) : Int) := by omega
    have hb1 : ((l.length - 1 : Nat) : Int) ≤ (l.length : Int) := by omega
    rw [ht]
    have HT := Lib.hid ht
    clear ht
    go_enter Tryz.func57, Tryz.ntmps57
    go_wp2_with fail
    refine (Tryz.strings_HasSuffix ⟨l.toArray⟩ ⟨#[10]⟩ w (by show l.length ≤ _; omega)).mono ?_
    show ∀ e w', e = Ending.returned (.bool (Lib.hasSuffix l [10])) ∧ _ → _
    rw [HS.out]
    rintro e w1 ⟨rfl, hw1⟩
    rw [hw1]
    clear hw1 w1
    go_wp2_with fail
    rw [HT.out]
    refine (Tryz.strings_TrimSuffix ⟨t.toArray⟩ ⟨#[13]⟩ w (by show t.length ≤ _; omega)).mono ?_
    rintro e w1 ⟨rfl, hw1⟩
    rw [hw1]
    go_wp2
    go_ret
    exact ⟨rfl, rfl⟩
/-- What is done at a verb. -/
def doS (s : Sess) (verb rest : Bs) : Bs × Sess :=
  if verb = [69, 72, 76, 79] then ehloS s rest else
  if verb = [72, 69, 76, 79] then heloS s rest else
  if verb = [77, 65, 73, 76] then mailS s rest else
  if verb = [82, 67, 80, 84] then rcptS s rest else
  if verb = [68, 65, 84, 65] then bareS dataS s rest else
  if verb = [82, 83, 69, 84] then bareS rsetS s rest else
  if verb = [81, 85, 73, 84] then bareS quitS s rest else
  if verb = [78, 79, 79, 80] then (replyL 250, s) else
  if verb = [86, 82, 70, 89] then (replyL 252, s) else (replyL 500, s)
def commandS (s : Sess) (line : Bs) : Bs × Sess :=
  if Lib.hasSuffix line [10] then doS s (greatL (wordL (bareL line)).1) (wordL (bareL line)).2 else (replyL 500, s)

def cmdEs (x1 x2 x3 : Nat) : Array MapEntry := #[
  { key := S [69, 72, 76, 79], val := .func (.func 60) #[] #[], born := 0 }, { key := S [72, 69, 76, 79], val := .func (.func 61) #[] #[], born := 1 },
  { key := S [77, 65, 73, 76], val := .func (.func 62) #[] #[], born := 2 }, { key := S [82, 67, 80, 84], val := .func (.func 63) #[] #[], born := 3 },
  { key := S [68, 65, 84, 65], val := .func (.func 97) #[] #[.pointer (some ⟨x1, 0, none⟩)], born := 4 }, { key := S [82, 83, 69, 84], val := .func (.func 97) #[] #[.pointer (some ⟨x2, 0, none⟩)], born := 5 },
  { key := S [81, 85, 73, 84], val := .func (.func 97) #[] #[.pointer (some ⟨x3, 0, none⟩)], born := 6 }, { key := S [78, 79, 79, 80], val := .func (.func 68) #[] #[], born := 7 }, { key := S [86, 82, 70, 89], val := .func (.func 69) #[] #[], born := 8 }]

theorem Ins.alloc {M : Nat} {es : Array MapEntry} {c : Nat} {W W' : World} (h : Ins M es c W W') (o : Obj) : (W'.alloc o).heap[M]? = some (.map es c) :=
  (Below.heap_alloc _ _ _ (Array.getElem?_eq_some_iff.1 h.1).1).trans h.1

theorem nil_nil (w : World) : (binOp BinOp.eql 91 .nilFunc .nilFunc).run Tryz.prog w = .ok (.bool true) w := by
  kernel_rfl
theorem func_not_nil (g : Fn) (x y : Array Value) (w : World) : (binOp BinOp.eql 91 (.func g x y) .nilFunc).run Tryz.prog w = .ok (.bool false) w := by
  kernel_rfl
theorem step_after {w w1 w2 : World} {b : Nat} {s s2 : Sess} {p : SP} {F : Nat → Prop} (k : Step b F w1 w2 s2) (h : SessAt w1 b s p F) (hb : Below w.heap.size w w1) (h8 : 8 ≤ w.heap.size) : Step b F w w2 s2 :=
  (Step.same h (Kept.of_below hb) h8).trans (step_wide k h hb h8)
set_option maxHeartbeats 4000000 in
set_option maxRecDepth 100000 in
theorem command_calls (w : World) (b : Nat) (s : Sess) (p : SP) (F : Nat → Prop) (h : SessAt w b s p F) (G : Glob w) (hm : s.most ≤ 9223372036854775807) (hto : s.rcp.length ≤ 16) (line : Bs) (hl : line.length ≤ 1000000) :
    Calls Tryz.prog 38 #[.pointer (some ⟨b, 0, none⟩), S line] w fun e w' => e = .returned (S (commandS s line).1) ∧ Step b F w w' (commandS s line).2 := by
  have H := Lib.hid h
  cases hsf : Lib.hasSuffix line [10]
  · have HE : Hid (commandS s line = (replyL 500, s)) := by unfold Hid commandS; rw [hsf]; rfl
    rw [HE.out]
    have HS := Lib.hid hsf
    clear hsf
    go_enter Tryz.func38, Tryz.ntmps38
    go_wp2_with fail
    refine (Tryz.strings_HasSuffix ⟨line.toArray⟩ ⟨#[10]⟩ w (by show line.length ≤ _; omega)).mono ?_
    show ∀ e w', e = Ending.returned (.bool (Lib.hasSuffix line [10])) ∧ _ → _
    rw [HS.out]
    rintro e w1 ⟨rfl, hw1⟩
    rw [hw1]
    clear hw1 w1
    go_wp2_with fail
    refine (reply_500 _ G).mono ?_
    rintro e w1 ⟨rfl, hb1⟩
    go_wp2
    go_ret
    exact ⟨rfl, Step.same (H.out.below hb1) (Kept.of_below hb1) G.sz⟩
  · obtain ⟨v, r, hw⟩ : ∃ v r, wordL (bareL line) = (v, r) := ⟨_, _, rfl⟩
    obtain ⟨u, hu⟩ : ∃ u, greatL v = u := ⟨_, rfl⟩
    have HE : Hid (commandS s line = doS s u r) := by unfold Hid commandS; rw [hsf, hw, ← hu]; rfl
    rw [HE.out]
    have hvr : v.length ≤ 1000000 ∧ r.length ≤ 1000000 := by
      have q1 := word_le (bareL line)
      have q2 := bareL_le line
      rw [hw] at q1
      exact ⟨Nat.le_trans q1.1 (Nat.le_trans q2 hl), Nat.le_trans q1.2 (Nat.le_trans q2 hl)⟩
    have HS := Lib.hid hsf
    have HW := Lib.hid hw
    have HU := Lib.hid hu
    clear hsf hw hu
    have hmm := @run_makeMap Tryz.prog
    go_enter Tryz.func38, Tryz.ntmps38
    go_wp2_with fail
    refine (Tryz.strings_HasSuffix ⟨line.toArray⟩ ⟨#[10]⟩ w (by show line.length ≤ _; omega)).mono ?_
    show ∀ e w', e = Ending.returned (.bool (Lib.hasSuffix line [10])) ∧ _ → _
    rw [HS.out]
    rintro e w1 ⟨rfl, hw1⟩
    rw [hw1]
    clear hw1 w1
    go_wp2_with fail
    refine (bareText_calls line hl _).mono ?_
    rintro e w1 ⟨rfl, hw1⟩
    rw [hw1]
    clear hw1 w1
    go_wp2_with fail
    refine (word_calls (bareL line) (by have := bareL_le line; omega) _).mono ?_
    rw [HW.out]
    rintro e w1 ⟨rfl, hb1⟩
    have G1 := G.below' hb1
    have h1 := H.out.below hb1
    have H1 := Lib.hid h1
    have hmk : (w1.alloc (.map #[] 0)).heap[w1.heap.size]? = some (.map #[] 0) := heap_alloc_new _ _
    obtain ⟨m0, r0, i0⟩ := run_insert_at (P := Tryz.prog) (w := (w1.alloc (.map #[] 0))) 94 9 91 Tryz.underlying94 Tryz.underlying9 w1.heap.size _ _ hmk (S [69, 72, 76, 79]) (.func (.func 60) #[] #[]) (by rfl)
    obtain ⟨m1, r1, i1⟩ := run_insert_at (P := Tryz.prog) (w := m0) 94 9 91 Tryz.underlying94 Tryz.underlying9 w1.heap.size _ _ i0.1 (S [72, 69, 76, 79]) (.func (.func 61) #[] #[]) (by rfl)
    obtain ⟨m2, r2, i2⟩ := run_insert_at (P := Tryz.prog) (w := m1) 94 9 91 Tryz.underlying94 Tryz.underlying9 w1.heap.size _ _ i1.1 (S [77, 65, 73, 76]) (.func (.func 62) #[] #[]) (by rfl)
    obtain ⟨m3, r3, i3⟩ := run_insert_at (P := Tryz.prog) (w := m2) 94 9 91 Tryz.underlying94 Tryz.underlying9 w1.heap.size _ _ i2.1 (S [82, 67, 80, 84]) (.func (.func 63) #[] #[]) (by rfl)
    obtain ⟨m4, r4, i4⟩ := run_insert_at (P := Tryz.prog) (w := (m3.alloc (.cells #[.func (.func 65) #[] #[]] 93))) 94 9 91 Tryz.underlying94 Tryz.underlying9 w1.heap.size _ _ (i3.alloc _) (S [68, 65, 84, 65]) (.func (.func 97) #[] #[.pointer (some ⟨m3.heap.size, 0, none⟩)]) (by rfl)
    obtain ⟨m5, r5, i5⟩ := run_insert_at (P := Tryz.prog) (w := (m4.alloc (.cells #[.func (.func 66) #[] #[]] 93))) 94 9 91 Tryz.underlying94 Tryz.underlying9 w1.heap.size _ _ (i4.alloc _) (S [82, 83, 69, 84]) (.func (.func 97) #[] #[.pointer (some ⟨m4.heap.size, 0, none⟩)]) (by rfl)
    obtain ⟨m6, r6, i6⟩ := run_insert_at (P := Tryz.prog) (w := (m5.alloc (.cells #[.func (.func 67) #[] #[]] 93))) 94 9 91 Tryz.underlying94 Tryz.underlying9 w1.heap.size _ _ (i5.alloc _) (S [81, 85, 73, 84]) (.func (.func 97) #[] #[.pointer (some ⟨m5.heap.size, 0, none⟩)]) (by rfl)
    obtain ⟨m7, r7, i7⟩ := run_insert_at (P := Tryz.prog) (w := m6) 94 9 91 Tryz.underlying94 Tryz.underlying9 w1.heap.size _ _ i6.1 (S [78, 79, 79, 80]) (.func (.func 68) #[] #[]) (by rfl)
    obtain ⟨m8, r8, i8⟩ := run_insert_at (P := Tryz.prog) (w := m7) 94 9 91 Tryz.underlying94 Tryz.underlying9 w1.heap.size _ _ i7.1 (S [86, 82, 70, 89]) (.func (.func 69) #[] #[]) (by rfl)
    have z1 : w1.heap.size < m0.heap.size := (Array.getElem?_eq_some_iff.1 i0.1).1
    have e0 := i0.2.size
    have e1 := i1.2.size
    have e2 := i2.2.size
    have e3 := i3.2.size
    have e4 := i4.2.size
    have e5 := i5.2.size
    have e6 := i6.2.size
    have e7 := i7.2.size
    have e8 := i8.2.size
    simp only [World.size_alloc] at e4 e5 e6
    have kM : ∀ {A B : World} {es : Array MapEntry} {c : Nat}, Ins w1.heap.size es c A B → Below w1.heap.size w1 A → Below w1.heap.size w1 B := fun hi hA =>
      ⟨hi.2.os.trans hA.os, hi.2.tape.trans hA.tape, hi.2.output.trans hA.output, Nat.le_trans hA.size hi.2.size, fun k hk => (hi.2.block k (Nat.lt_of_lt_of_le hk hA.size) (by omega)).trans (hA.block k hk)⟩
    have b0 := kM i0 ((Below.refl _ w1).alloc (Nat.le_refl _) _)
    have b3 := kM i3 (kM i2 (kM i1 b0))
    have b4 := kM i4 (b3.alloc (by omega) _)
    have b5 := kM i5 (b4.alloc (by omega) _)
    have b6 := kM i6 (b5.alloc (by omega) _)
    have b8 := kM i8 (kM i7 b6)
    have x1 : m8.heap[m3.heap.size]? = some (.cells #[.func (.func 65) #[] #[]] 93 (0, 0)) := by
      rw [i8.2.block _ (by omega) (by omega), i7.2.block _ (by omega) (by omega), i6.2.block _ (by simp; omega) (by omega), Below.heap_alloc _ _ _ (by omega), i5.2.block _ (by simp; omega) (by omega), Below.heap_alloc _ _ _ (by omega), i4.2.block _ (by simp) (by omega)]
      exact heap_alloc_new _ _
    have x2 : m8.heap[m4.heap.size]? = some (.cells #[.func (.func 66) #[] #[]] 93 (0, 0)) := by
      rw [i8.2.block _ (by omega) (by omega), i7.2.block _ (by omega) (by omega), i6.2.block _ (by simp; omega) (by omega), Below.heap_alloc _ _ _ (by omega), i5.2.block _ (by simp) (by omega)]
      exact heap_alloc_new _ _
    have x3 : m8.heap[m5.heap.size]? = some (.cells #[.func (.func 67) #[] #[]] 93 (0, 0)) := by
      rw [i8.2.block _ (by omega) (by omega), i7.2.block _ (by omega) (by omega), i6.2.block _ (by simp) (by omega)]
      exact heap_alloc_new _ _
    have htab : m8.heap[w1.heap.size]? = some (.map (cmdEs m3.heap.size m4.heap.size m5.heap.size) 9) := i8.1
    have G8 := G1.below b8 G1.sz
    have h8 := h1.below b8
    have H8 := Lib.hid h8
    have T := Lib.hid htab
    have X1 := Lib.hid x1
    have X2 := Lib.hid x2
    have X3 := Lib.hid x3
    have B8 := Lib.hid b8
    clear i0 i1 i2 i3 i4 i5 i6 i7 i8 x1 x2 x3 htab b0 b3 b4 b5 b6 b8 h8 kM e0 e1 e2 e3 e4 e5 e6 e7 e8 hmk
    go_wp2_with (first | (go_at_call 64; refine (bare_calls _ 65).mono ?_; rintro e w' ⟨rfl, rfl⟩) | (go_at_call 64; refine (bare_calls _ 66).mono ?_; rintro e w' ⟨rfl, rfl⟩) | (go_at_call 64; refine (bare_calls _ 67).mono ?_; rintro e w' ⟨rfl, rfl⟩))
    refine (great_calls v (by omega) _ G8).mono ?_
    rw [HU.out]
    rintro e w2 ⟨rfl, hb2⟩
    clear r0 r1 r2 r3 r4 r5 r6 r7 r8
    have hb12 : Below w.heap.size w w2 := below_then' hb1 (below_then' B8.out hb2)
    have G2 := G8.below' hb2
    have h2 := H8.out.below hb2
    have H2 := Lib.hid h2
    have z8 := (Array.getElem?_eq_some_iff.1 T.out).1
    have y1 := (Array.getElem?_eq_some_iff.1 X1.out).1
    have y2 := (Array.getElem?_eq_some_iff.1 X2.out).1
    have y3 := (Array.getElem?_eq_some_iff.1 X3.out).1
    have ht2 : w2.heap[w1.heap.size]? = _ := (hb2.block _ z8).trans T.out
    have X1' := Lib.hid ((hb2.block _ y1).trans X1.out)
    have X2' := Lib.hid ((hb2.block _ y2).trans X2.out)
    have X3' := Lib.hid ((hb2.block _ y3).trans X3.out)
    clear X1 X2 X3 T z8 y1 y2 y3
    have HB := Lib.hid hb12
    clear hb12 hb2
    have hnf : ∀ (g : Fn) (x y : Array Value), (binOp BinOp.eql 91 (.func g x y) .nilFunc).run Tryz.prog w2 = .ok (.bool false) w2 := fun g x y => func_not_nil g x y w2
    by_cases q0 : u = [69, 72, 76, 79]
    · have hlk := run_lookup_known (P := Tryz.prog) (t := 94) Tryz.underlying94 Tryz.underlying9 (Or.inr rfl) ht2 (S [69, 72, 76, 79]) (i := 0) (v := (.func (.func 60) #[] #[])) (by rfl)
      rw [← q0] at hlk
      have HD : Hid (doS s u r = ehloS s r) := by rw [q0]; rfl
      clear q0 ht2
      go_wp2_with fail
      refine (ehlo_calls w2 b s p F H2.out G2 hm r).mono ?_
      rintro e w3 ⟨rfl, hst⟩
      have HST := Lib.hid hst
      clear hst
      go_wp2
      go_ret
      rw [HD.out]
      exact ⟨rfl, step_after HST.out H2.out HB.out G.sz⟩
    by_cases q1 : u = [72, 69, 76, 79]
    · have hlk := run_lookup_known (P := Tryz.prog) (t := 94) Tryz.underlying94 Tryz.underlying9 (Or.inr rfl) ht2 (S [72, 69, 76, 79]) (i := 1) (v := (.func (.func 61) #[] #[])) (by rfl)
      rw [← q1] at hlk
      have HD : Hid (doS s u r = heloS s r) := by rw [q1]; rfl
      clear q0 q1 ht2
      go_wp2_with fail
      refine (helo_calls w2 b s p F H2.out G2 r).mono ?_
      rintro e w3 ⟨rfl, hst⟩
      have HST := Lib.hid hst
      clear hst
      go_wp2
      go_ret
      rw [HD.out]
      exact ⟨rfl, step_after HST.out H2.out HB.out G.sz⟩
    by_cases q2 : u = [77, 65, 73, 76]
    · have hlk := run_lookup_known (P := Tryz.prog) (t := 94) Tryz.underlying94 Tryz.underlying9 (Or.inr rfl) ht2 (S [77, 65, 73, 76]) (i := 2) (v := (.func (.func 62) #[] #[])) (by rfl)
      rw [← q2] at hlk
      have HD : Hid (doS s u r = mailS s r) := by rw [q2]; rfl
      clear q0 q1 q2 ht2
      go_wp2_with fail
      refine (mail_calls w2 b s p F H2.out G2 hm r hvr.2).mono ?_
      rintro e w3 ⟨rfl, hst⟩
      have HST := Lib.hid hst
      clear hst
      go_wp2
      go_ret
      rw [HD.out]
      exact ⟨rfl, step_after HST.out H2.out HB.out G.sz⟩
    by_cases q3 : u = [82, 67, 80, 84]
    · have hlk := run_lookup_known (P := Tryz.prog) (t := 94) Tryz.underlying94 Tryz.underlying9 (Or.inr rfl) ht2 (S [82, 67, 80, 84]) (i := 3) (v := (.func (.func 63) #[] #[])) (by rfl)
      rw [← q3] at hlk
      have HD : Hid (doS s u r = rcptS s r) := by rw [q3]; rfl
      clear q0 q1 q2 q3 ht2
      go_wp2_with fail
      refine (rcpt_calls w2 b s p F H2.out G2 hto r (by omega)).mono ?_
      rintro e w3 ⟨rfl, hst⟩
      have HST := Lib.hid hst
      clear hst
      go_wp2
      go_ret
      rw [HD.out]
      exact ⟨rfl, step_after HST.out H2.out HB.out G.sz⟩
    by_cases q4 : u = [68, 65, 84, 65]
    · have hlk := run_lookup_known (P := Tryz.prog) (t := 94) Tryz.underlying94 Tryz.underlying9 (Or.inr rfl) ht2 (S [68, 65, 84, 65]) (i := 4) (v := (.func (.func 97) #[] #[.pointer (some ⟨m3.heap.size, 0, none⟩)])) (by rfl)
      rw [← q4] at hlk
      have HD : Hid (doS s u r = bareS dataS s r) := by rw [q4]; rfl
      clear q0 q1 q2 q3 q4 ht2
      go_wp2_with fail
      refine (bare1_calls 65 dataS does_data (enters_of Tryz.func65 (by kernel_rfl) rfl) _ w2 X1'.out b s p F H2.out G2 r).mono ?_
      rintro e w3 ⟨rfl, hst⟩
      have HST := Lib.hid hst
      clear hst
      go_wp2
      go_ret
      rw [HD.out]
      exact ⟨rfl, step_after HST.out H2.out HB.out G.sz⟩
    by_cases q5 : u = [82, 83, 69, 84]
    · have hlk := run_lookup_known (P := Tryz.prog) (t := 94) Tryz.underlying94 Tryz.underlying9 (Or.inr rfl) ht2 (S [82, 83, 69, 84]) (i := 5) (v := (.func (.func 97) #[] #[.pointer (some ⟨m4.heap.size, 0, none⟩)])) (by rfl)
      rw [← q5] at hlk
      have HD : Hid (doS s u r = bareS rsetS s r) := by rw [q5]; rfl
      clear q0 q1 q2 q3 q4 q5 ht2
      go_wp2_with fail
      refine (bare1_calls 66 rsetS does_rset (enters_of Tryz.func66 (by kernel_rfl) rfl) _ w2 X2'.out b s p F H2.out G2 r).mono ?_
      rintro e w3 ⟨rfl, hst⟩
      have HST := Lib.hid hst
      clear hst
      go_wp2
      go_ret
      rw [HD.out]
      exact ⟨rfl, step_after HST.out H2.out HB.out G.sz⟩
    by_cases q6 : u = [81, 85, 73, 84]
    · have hlk := run_lookup_known (P := Tryz.prog) (t := 94) Tryz.underlying94 Tryz.underlying9 (Or.inr rfl) ht2 (S [81, 85, 73, 84]) (i := 6) (v := (.func (.func 97) #[] #[.pointer (some ⟨m5.heap.size, 0, none⟩)])) (by rfl)
      rw [← q6] at hlk
      have HD : Hid (doS s u r = bareS quitS s r) := by rw [q6]; rfl
      clear q0 q1 q2 q3 q4 q5 q6 ht2
      go_wp2_with fail
      refine (bare1_calls 67 quitS does_quit (enters_of Tryz.func67 (by kernel_rfl) rfl) _ w2 X3'.out b s p F H2.out G2 r).mono ?_
      rintro e w3 ⟨rfl, hst⟩
      have HST := Lib.hid hst
      clear hst
      go_wp2
      go_ret
      rw [HD.out]
      exact ⟨rfl, step_after HST.out H2.out HB.out G.sz⟩
    by_cases q7 : u = [78, 79, 79, 80]
    · have hlk := run_lookup_known (P := Tryz.prog) (t := 94) Tryz.underlying94 Tryz.underlying9 (Or.inr rfl) ht2 (S [78, 79, 79, 80]) (i := 7) (v := (.func (.func 68) #[] #[])) (by rfl)
      rw [← q7] at hlk
      have HD : Hid (doS s u r = (replyL 250, s)) := by rw [q7]; rfl
      clear q0 q1 q2 q3 q4 q5 q6 q7 ht2
      go_wp2_with fail
      refine (noop_calls w2 G2 _ _).mono ?_
      rintro e w3 ⟨rfl, hb3⟩
      have HB3 := Lib.hid hb3
      clear hb3
      go_wp2
      go_ret
      rw [HD.out]
      exact ⟨rfl, (Step.same (h.below HB.out) (Kept.of_below HB.out) G.sz).below HB3.out G2.sz⟩
    by_cases q8 : u = [86, 82, 70, 89]
    · have hlk := run_lookup_known (P := Tryz.prog) (t := 94) Tryz.underlying94 Tryz.underlying9 (Or.inr rfl) ht2 (S [86, 82, 70, 89]) (i := 8) (v := (.func (.func 69) #[] #[])) (by rfl)
      rw [← q8] at hlk
      have HD : Hid (doS s u r = (replyL 252, s)) := by rw [q8]; rfl
      clear q0 q1 q2 q3 q4 q5 q6 q7 q8 ht2
      go_wp2_with fail
      refine (vrfy_calls w2 G2 _ _).mono ?_
      rintro e w3 ⟨rfl, hb3⟩
      have HB3 := Lib.hid hb3
      clear hb3
      go_wp2
      go_ret
      rw [HD.out]
      exact ⟨rfl, (Step.same (h.below HB.out) (Kept.of_below HB.out) G.sz).below HB3.out G2.sz⟩
    have hnn := nil_nil w2
    have hlk := run_lookup_known_not (P := Tryz.prog) (w := w2) (t := 94) Tryz.underlying94 Tryz.underlying9 (Or.inr rfl) ht2 (S u) (by simp only [cmdEs, Instr.findNow, sameNow_S, q0, q1, q2, q3, q4, q5, q6, q7, q8, decide_false]) (z := .nilFunc) (by kernel_rfl)
    have HD : Hid (doS s u r = (replyL 500, s)) := by unfold Hid doS; rw [if_neg q0, if_neg q1, if_neg q2, if_neg q3, if_neg q4, if_neg q5, if_neg q6, if_neg q7, if_neg q8]
    clear q0 q1 q2 q3 q4 q5 q6 q7 q8 ht2
    go_wp2_with fail
    refine (reply_500 _ G2).mono ?_
    rintro e w3 ⟨rfl, hb3⟩
    have HB3 := Lib.hid hb3
    clear hb3
    go_wp2
    go_ret
    rw [HD.out]
    exact ⟨rfl, (Step.same (h.below HB.out) (Kept.of_below HB.out) G.sz).below HB3.out G2.sz⟩
end Go.Proofs.YtapanjfheddfnaaGreatDoor
