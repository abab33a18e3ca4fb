/- The commands without options. -/
import Derived.Test.YtapanjfheddfnaaGreatDoorSess
import Derived.Test.YtapanjfheddfnaaGreatDoorReply
import Derived.Test.YtapanjfheddfnaaGreatDoorStr2
import Derived.Lib.ItoaLen
namespace Go.Proofs.YtapanjfheddfnaaGreatDoor
open Go.RowKit Go.Shelf
attribute [local go_sem high] ext_to ext_from
attribute [local go_sem] ext_list app_list size_list

def resetS (s : Sess) : Sess := { s with sender := none, rcp := [] }
def helloS (s : Sess) (rest more : Bs) : Bs × Sess := if rest = [] then (replyL 501, s) else (more ++ replyL 250, resetS { s with greeted := true })
def ehloT (most : Nat) : Bs := [50, 53, 48, 45, 112, 111, 117, 99, 104, 13, 10, 50, 53, 48, 45, 80, 73, 80, 69, 76, 73, 78, 73, 78, 71, 13, 10, 50, 53, 48, 45, 83, 73, 90, 69, 32] ++ Lib.itoa most ++ [13, 10]
def ehloS (s : Sess) (rest : Bs) : Bs × Sess := helloS s rest (ehloT s.most)
def heloS (s : Sess) (rest : Bs) : Bs × Sess := helloS s rest []
def dataS (s : Sess) : Bs × Sess := if s.rcp = [] then (replyL 503, s) else (replyL 354, { s with body := some [], long := false })
def rsetS (s : Sess) : Bs × Sess := (replyL 250, resetS s)
def quitS (s : Sess) : Bs × Sess := (replyL 221, { s with over := true })
def bareS (f : Sess → Bs × Sess) (s : Sess) (rest : Bs) : Bs × Sess := if rest = [] then f s else (replyL 501, s)

theorem SessAt.glob {W W' : World} {b : Nat} {s : Sess} {p : SP} {F : Nat → Prop} (h : SessAt W b s p F) (G : Glob W) (hk : Kept F W W') : Glob W' := G.kept hk fun k q => (h.blk k q).1
theorem SessAt.k4 {W W' : World} {b : Nat} {s : Sess} {p : SP} {F : Nat → Prop} (h : SessAt W b s p F) (hk : Kept F W W') (i : Nat) (v : Value) : Kept F W (W'.setCell ⟨b, i, none⟩ v) := hk.setCell (p := ⟨b, i, none⟩) (.inl h.b8) v

set_option maxRecDepth 100000 in
theorem reset_calls (w : World) (b : Nat) (s : Sess) (p : SP) (F : Nat → Prop) (h : SessAt w b s p F) :
    Calls Tryz.prog 44 #[.pointer (some ⟨b, 0, none⟩)] w fun e w' => e = .returned (.tuple #[]) ∧ w' = (w.setCell ⟨b, 4, none⟩ (.pointer none)).setCell ⟨b, 5, none⟩ (.slice none 0 0) := by
  have c4 : w.cell? ⟨b, 4, none⟩ = some p.sv := h.cell 4
  have c5 : w.cell? ⟨b, 5, none⟩ = some p.tv := h.cell 5
  have f4 := h.frozen 4
  have f5 := h.frozen 5
  go_enter Tryz.func44, Tryz.ntmps44
  go_wp2
  go_end0
  exact ⟨rfl, rfl⟩
theorem reset_done {w : World} {b : Nat} {s : Sess} {p : SP} {F : Nat → Prop} (h : SessAt w b s p F) : ∃ p', SessAt ((w.setCell ⟨b, 4, none⟩ (.pointer none)).setCell ⟨b, 5, none⟩ (.slice none 0 0)) b (resetS s) p' F :=
  ⟨_, h.noSender.noTo⟩

set_option maxRecDepth 100000 in
theorem hello_calls (w : World) (b : Nat) (s : Sess) (p : SP) (F : Nat → Prop) (h : SessAt w b s p F) (G : Glob w) (rest more : Bs) (hmore : more.length ≤ 1000) :
    Calls Tryz.prog 92 #[.pointer (some ⟨b, 0, none⟩), S rest, S more] w fun e w' => e = .returned (S (helloS s rest more).1) ∧ Step b F w w' (helloS s rest more).2 := by
  have H := Lib.hid h
  have c3 : w.cell? ⟨b, 3, none⟩ = some (.bool s.greeted) := h.cell 3
  have f3 := h.frozen 3
  by_cases hr : rest = []
  · subst hr
    have he : helloS s [] more = (replyL 501, s) := rfl
    rw [he]
    go_enter Tryz.func92, Tryz.ntmps92
    go_wp2_with fail
    refine (reply_501 _ G).mono ?_
    rintro e w1 ⟨rfl, hb1⟩
    go_wp2
    go_ret
    exact ⟨rfl, Step.same (H.out.below hb1) (Kept.of_below hb1) G.sz⟩
  · have he : helloS s rest more = (more ++ replyL 250, resetS { s with greeted := true }) := by unfold helloS; rw [if_neg hr]
    rw [he]
    have hd : List.isEmpty rest = false := by simpa using hr
    obtain ⟨y, hy⟩ : ∃ y, replyL 250 = y := ⟨_, rfl⟩
    have hyl : y.length ≤ 8 := by rw [← hy]; decide +kernel
    have HY : Hid (replyL 250 = y) := hy
    rw [hy]
    clear hy
    have hyi : (y.length : Int) ≤ 8 := by omega
    have hmi : (more.length : Int) ≤ 1000 := by omega
    have h1 := h.flag 3 (.bool true) { s with greeted := true } rfl rfl rfl rfl rfl rfl
    have H1 := Lib.hid h1
    have hk1 : Kept F w (w.setCell ⟨b, 3, none⟩ (.bool true)) := h.k4 (Kept.refl _ _) _ _
    go_enter Tryz.func92, Tryz.ntmps92
    go_wp2_with fail
    refine (reset_calls _ b _ p F H1.out).mono ?_
    rintro e w1 ⟨rfl, rfl⟩
    obtain ⟨p2, h2⟩ := reset_done h1
    have hk2 := h.k4 (h.k4 hk1 4 (.pointer none)) 5 (.slice none 0 0)
    obtain ⟨w2, hw2⟩ : ∃ w2, ((w.setCell ⟨b, 3, none⟩ (.bool true)).setCell ⟨b, 4, none⟩ (.pointer none)).setCell ⟨b, 5, none⟩ (.slice none 0 0) = w2 := ⟨_, rfl⟩
    rw [hw2] at h2 hk2 ⊢
    have G2 := H.out.glob G hk2
    go_wp2_with fail
    refine (reply_250 _ G2).mono ?_
    rw [HY.out]
    rintro e w3 ⟨rfl, hb3⟩
    go_wp2
    go_ret
    exact ⟨rfl, (Step.same h2 hk2 G.sz).below hb3 G2.sz⟩

theorem itoa_le (n : Nat) (h : n ≤ 9223372036854775807) : (Lib.itoa n).length ≤ 21 := Lib.itoa_length_le n (by omega) (by omega)
theorem step_wide {w w1 w2 : World} {b : Nat} {s s2 : Sess} {p : SP} {F : Nat → Prop} (k : Step b F w1 w2 s2) (h : SessAt w1 b s p F) (hb : Below w.heap.size w w1) (h8 : 8 ≤ w.heap.size) : Step b (Fresh F w w1) w1 w2 s2 := by
  obtain ⟨hk, p2, h2⟩ := k
  have e1 := hb.size
  refine ⟨hk.mono fun i q => .inl (.inl q), p2, h2.wide (fun i q => ?_) (fun i q => ?_)⟩
  · exact q.elim (fun q => .inl (.inl q)) .inr
  · rcases q with (q | q) | q
    · exact h2.blk i (.inl q)
    · have := hk.size
      exact ⟨by omega, by omega⟩
    · exact h2.blk i (.inr q)
set_option maxRecDepth 100000 in
theorem ehlo_calls (w : World) (b : Nat) (s : Sess) (p : SP) (F : Nat → Prop) (h : SessAt w b s p F) (G : Glob w) (hm : s.most ≤ 9223372036854775807) (rest : Bs) :
    Calls Tryz.prog 60 #[.pointer (some ⟨b, 0, none⟩), S rest] w fun e w' => e = .returned (S (ehloS s rest).1) ∧ Step b F w w' (ehloS s rest).2 := by
  have H := Lib.hid h
  have c0 : w.cell? ⟨b, 0, none⟩ = some (.int .i64 s.most) := h.cell 0
  have HE : Hid (ehloS s rest = helloS s rest (ehloT s.most)) := rfl
  rw [HE.out]
  obtain ⟨r, hr⟩ : ∃ r, Lib.itoa s.most = r := ⟨_, rfl⟩
  have HT : Hid (ehloT s.most = [50, 53, 48, 45, 112, 111, 117, 99, 104, 13, 10, 50, 53, 48, 45, 80, 73, 80, 69, 76, 73, 78, 73, 78, 71, 13, 10, 50, 53, 48, 45, 83, 73, 90, 69, 32] ++ r ++ [13, 10]) := by unfold Hid ehloT; rw [hr]
  have hrl : r.length ≤ 21 := by rw [← hr]; exact itoa_le _ hm
  go_enter Tryz.func60, Tryz.ntmps60
  go_wp2_with fail
  refine (text_calls s.most (by omega) (by omega) _ G).mono ?_
  rw [hr]
  rintro e w1 ⟨rfl, hb1⟩
  have G1 := G.below' hb1
  have h1 := H.out.below hb1
  have H1 := Lib.hid h1
  go_wp2_with fail
  refine (hello_calls w1 b s p F H1.out G1 rest _ (by simp; omega)).mono ?_
  rintro e w2 ⟨rfl, hb2⟩
  have HB := Lib.hid hb2
  go_wp2
  go_ret
  have e1 : ehloT s.most = [50, 53, 48, 45, 112, 111, 117, 99, 104, 13, 10, 50, 53, 48, 45, 80, 73, 80, 69, 76, 73, 78, 73, 78, 71, 13, 10, 50, 53, 48, 45, 83, 73, 90, 69, 32] ++ r ++ [13, 10] := HT.out
  rw [e1]
  refine ⟨rfl, (Step.same h1 (Kept.of_below hb1) G.sz).trans ?_⟩
  exact step_wide HB.out h1 hb1 G.sz
set_option maxRecDepth 100000 in
theorem helo_calls (w : World) (b : Nat) (s : Sess) (p : SP) (F : Nat → Prop) (h : SessAt w b s p F) (G : Glob w) (rest : Bs) :
    Calls Tryz.prog 61 #[.pointer (some ⟨b, 0, none⟩), S rest] w fun e w' => e = .returned (S (heloS s rest).1) ∧ Step b F w w' (heloS s rest).2 := by
  have H := Lib.hid h
  have HE : Hid (heloS s rest = helloS s rest []) := rfl
  rw [HE.out]
  go_enter Tryz.func61, Tryz.ntmps61
  go_wp2_with fail
  refine (hello_calls w b s p F H.out G rest [] (by simp)).mono ?_
  rintro e w1 ⟨rfl, hb1⟩
  have HB := Lib.hid hb1
  go_wp2
  go_ret
  exact ⟨rfl, HB.out⟩

set_option maxRecDepth 100000 in
theorem rset_calls (w : World) (b : Nat) (s : Sess) (p : SP) (F : Nat → Prop) (h : SessAt w b s p F) (G : Glob w) :
    Calls Tryz.prog 66 #[.pointer (some ⟨b, 0, none⟩)] w fun e w' => e = .returned (S (rsetS s).1) ∧ Step b F w w' (rsetS s).2 := by
  have H := Lib.hid h
  have HE : Hid (rsetS s = (replyL 250, resetS s)) := rfl
  rw [HE.out]
  go_enter Tryz.func66, Tryz.ntmps66
  go_wp2_with fail
  refine (reset_calls _ b _ p F H.out).mono ?_
  rintro e w1 ⟨rfl, rfl⟩
  obtain ⟨p2, h2⟩ := reset_done H.out
  have hk2 := h.k4 (h.k4 (Kept.refl _ _) 4 (.pointer none)) 5 (.slice none 0 0)
  obtain ⟨w2, hw2⟩ : ∃ w2, (w.setCell ⟨b, 4, none⟩ (.pointer none)).setCell ⟨b, 5, none⟩ (.slice none 0 0) = w2 := ⟨_, rfl⟩
  rw [hw2] at h2 hk2 ⊢
  have G2 := H.out.glob G hk2
  go_wp2_with fail
  refine (reply_250 _ G2).mono ?_
  rintro e w3 ⟨rfl, hb3⟩
  go_wp2
  go_ret
  exact ⟨rfl, (Step.same h2 hk2 G.sz).below hb3 G2.sz⟩

set_option maxRecDepth 100000 in
theorem quit_calls (w : World) (b : Nat) (s : Sess) (p : SP) (F : Nat → Prop) (h : SessAt w b s p F) (G : Glob w) :
    Calls Tryz.prog 67 #[.pointer (some ⟨b, 0, none⟩)] w fun e w' => e = .returned (S (quitS s).1) ∧ Step b F w w' (quitS s).2 := by
  have H := Lib.hid h
  have HE : Hid (quitS s = (replyL 221, { s with over := true })) := rfl
  rw [HE.out]
  have c9 : w.cell? ⟨b, 9, none⟩ = some (.bool s.over) := h.cell 9
  have f9 := h.frozen 9
  have h1 := h.flag 9 (.bool true) { s with over := true } rfl rfl rfl rfl rfl rfl
  have hk1 : Kept F w (w.setCell ⟨b, 9, none⟩ (.bool true)) := h.k4 (Kept.refl _ _) _ _
  have G1 := h.glob G hk1
  go_enter Tryz.func67, Tryz.ntmps67
  go_wp2_with fail
  refine (reply_221 _ G1).mono ?_
  rintro e w3 ⟨rfl, hb3⟩
  go_wp2
  go_ret
  exact ⟨rfl, (Step.same h1 hk1 G.sz).below hb3 G1.sz⟩

set_option maxRecDepth 100000 in
theorem noop_calls (w : World) (G : Glob w) (v u : Value) : Calls Tryz.prog 68 #[v, u] w fun e w' => e = .returned (S (replyL 250)) ∧ Below w.heap.size w w' := by
  go_enter Tryz.func68, Tryz.ntmps68
  go_wp2_with fail
  refine (reply_250 _ G).mono ?_
  rintro e w3 ⟨rfl, hb3⟩
  go_wp2
  go_ret
  exact ⟨rfl, hb3⟩
set_option maxRecDepth 100000 in
theorem vrfy_calls (w : World) (G : Glob w) (v u : Value) : Calls Tryz.prog 69 #[v, u] w fun e w' => e = .returned (S (replyL 252)) ∧ Below w.heap.size w w' := by
  go_enter Tryz.func69, Tryz.ntmps69
  go_wp2_with fail
  refine (reply_252 _ G).mono ?_
  rintro e w3 ⟨rfl, hb3⟩
  go_wp2
  go_ret
  exact ⟨rfl, hb3⟩
set_option maxRecDepth 100000 in
/-- bare's answer: the function that asks for no more, over its box. -/
theorem bare_calls (w : World) (f : Nat) : Calls Tryz.prog 64 #[.func (.func f) #[] #[]] w fun e w' => e = .returned (.func (.func 97) #[] #[.pointer (some ⟨w.heap.size, 0, none⟩)]) ∧ w' = w.alloc (.cells #[.func (.func f) #[] #[]] 93) := by
  go_enter Tryz.func64, Tryz.ntmps64
  go_wp2
  go_ret
  exact ⟨rfl, rfl⟩
end Go.Proofs.YtapanjfheddfnaaGreatDoor
