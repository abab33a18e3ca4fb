/- DATA, a command without parameters, RCPT. -/
import Derived.Test.YtapanjfheddfnaaGreatDoorCmds
namespace Go.Proofs.YtapanjfheddfnaaGreatDoor
open Go.RowKit Go.Shelf
attribute [local go_sem high] ext_to ext_from
attribute [local go_sem] ext_list app_list size_list

theorem strsV_len (l : List Bs) : (strsV l).length = l.length := by simp [strsV]

theorem SessAt.newBody {W : World} {b : Nat} {s : Sess} {p : SP} {F : Nat → Prop} (h : SessAt W b s p F) (h8 : 8 ≤ W.heap.size) :
    SessAt ((W.alloc (.cells #[.pointer none, .slice none 0 0] 69)).setCell ⟨b, 6, none⟩ (.pointer (some ⟨W.heap.size, 0, none⟩))) b { s with body := some [] } { p with bv := .pointer (some ⟨W.heap.size, 0, none⟩), yv := .slice none 0 0 } (fun k => F k ∨ k = W.heap.size) := by
  have hb : Below W.heap.size W (W.alloc (.cells #[.pointer none, .slice none 0 0] 69)) := (Below.refl _ W).alloc (Nat.le_refl _) _
  have h1 := (h.below hb).wide (F' := fun k => F k ∨ k = W.heap.size) (fun _ => .inl) (fun k q => by
    rcases q with q | rfl
    · have := h.blk k q; exact ⟨this.1, by simp; omega⟩
    · exact ⟨h8, by simp⟩)
  refine h1.store 6 _ rfl rfl rfl rfl h1.kept h1.rcp h1.sender ⟨_, rfl, BuiltAt.fresh W h8⟩ ⟨h.sep.kt, h.sep.ks, h.sep.ts, fun _ _ e => (by cases e)⟩ fun k q => ?_
  rcases q with q | q | q | q | q | q | q | q
  · exact h1.foot k (.inl q)
  · exact h1.foot k (.inr (.inl q))
  · exact h1.foot k (.inr (.inr (.inl q)))
  · exact h1.foot k (.inr (.inr (.inr (.inl q))))
  · exact h1.foot k (.inr (.inr (.inr (.inr (.inl q)))))
  · exact h1.foot k (.inr (.inr (.inr (.inr (.inr (.inl q))))))
  · cases q; exact .inr rfl
  · cases q

set_option maxRecDepth 100000 in
theorem data_calls (w : World) (b : Nat) (s : Sess) (p : SP) (F : Nat → Prop) (h : SessAt w b s p F) (G : Glob w) :
    Calls Tryz.prog 65 #[.pointer (some ⟨b, 0, none⟩)] w fun e w' => e = .returned (S (dataS s).1) ∧ Step b F w w' (dataS s).2 := by
  have H := Lib.hid h
  obtain ⟨a, c, ht⟩ := h.rcp.slice
  rw [strsV_len] at ht
  have c5 : w.cell? ⟨b, 5, none⟩ = some (.slice a s.rcp.length c) := by rw [← ht]; exact h.cell 5
  have c6 : w.cell? ⟨b, 6, none⟩ = some p.bv := h.cell 6
  have c7 : w.cell? ⟨b, 7, none⟩ = some (.bool s.long) := h.cell 7
  have f6 := h.frozen 6
  have f7 := h.frozen 7
  by_cases hr : s.rcp = []
  · have he : dataS s = (replyL 503, s) := by unfold dataS; rw [if_pos hr]
    have hz : s.rcp.length = 0 := by rw [hr]; rfl
    rw [hz] at c5
    rw [he]
    clear he
    go_enter Tryz.func65, Tryz.ntmps65
    go_wp2_with fail
    refine (reply_503 _ G).mono ?_
    rintro e w1 ⟨rfl, hb1⟩
    go_wp2
    go_ret
    exact ⟨rfl, Step.same (H.out.below hb1) (Kept.of_below hb1) G.sz⟩
  · have he : dataS s = (replyL 354, { s with body := some [], long := false }) := by unfold dataS; rw [if_neg hr]
    rw [he]
    clear he
    have hd : s.rcp.isEmpty = false := by simpa using hr
    have hlz : ((s.rcp.length : Int) == 0) = false := by have := List.length_pos_iff.2 hr; simp; omega
    have h1 := (h.newBody G.sz).flag 7 (.bool false) { s with body := some [], long := false } rfl rfl rfl rfl rfl rfl
    have hk1 : Kept F w (((w.alloc (.cells #[.pointer none, .slice none 0 0] 69)).setCell ⟨b, 6, none⟩ (.pointer (some ⟨w.heap.size, 0, none⟩))).setCell ⟨b, 7, none⟩ (.bool false)) := h.k4 (h.k4 ((Kept.refl _ w).alloc _) 6 _) 7 _
    have hltb : b < w.heap.size := (h.blk b h.b8).2
    obtain ⟨w1, hw1⟩ : ∃ w1, ((w.alloc (.cells #[.pointer none, .slice none 0 0] 69)).setCell ⟨b, 6, none⟩ (.pointer (some ⟨w.heap.size, 0, none⟩))).setCell ⟨b, 7, none⟩ (.bool false) = w1 := ⟨_, rfl⟩
    have hw1' : ((w.setCell ⟨b, 6, none⟩ (.pointer (some ⟨w.heap.size, 0, none⟩))).setCell ⟨b, 7, none⟩ (.bool false)).alloc (.cells #[.pointer none, .slice none 0 0] 69) = w1 := by
      rw [← hw1]
      go_simp
    rw [hw1] at h1 hk1
    have G1 := h.glob G hk1
    have HW := Lib.hid hw1'
    clear hw1 hw1'
    go_enter Tryz.func65, Tryz.ntmps65
    go_wp2_with fail
    rw [HW.out]
    refine (reply_354 _ G1).mono ?_
    rintro e w2 ⟨rfl, hb2⟩
    go_wp2
    go_ret
    have hsz : w.heap.size < w1.heap.size := by rw [← HW.out]; simp
    refine ⟨rfl, Step.below (w1 := w1) ⟨hk1, _, h1.wide (fun k q => ?_) (fun k q => ?_)⟩ hb2 G1.sz⟩
    · rcases q with q | rfl
      · exact .inl q
      · exact .inr ⟨Nat.le_refl _, hsz⟩
    · rcases q with q | q
      · exact h1.blk k (.inl q)
      · have := G.sz; exact ⟨by omega, q.2⟩

/-- What a method without parameters does. -/
def Does (f : Nat) (op : Sess → Bs × Sess) : Prop :=
  ∀ (w : World) (b : Nat) (s : Sess) (p : SP) (F : Nat → Prop), SessAt w b s p F → Glob w → Calls Tryz.prog f #[.pointer (some ⟨b, 0, none⟩)] w fun e w' => e = .returned (S (op s).1) ∧ Step b F w w' (op s).2

set_option maxRecDepth 100000 in
theorem bare1_calls (f : Nat) (op : Sess → Bs × Sess) (hf : Does f op) (he : ∀ args w, (callFunc f args).run Tryz.prog w = .ok (.enter f args) w) (x : Nat) (w : World) (hx : w.heap[x]? = some (.cells #[.func (.func f) #[] #[]] 93 (0, 0)))
    (b : Nat) (s : Sess) (p : SP) (F : Nat → Prop) (h : SessAt w b s p F) (G : Glob w) (rest : Bs) :
    Calls Tryz.prog 97 #[.pointer (some ⟨b, 0, none⟩), S rest, .pointer (some ⟨x, 0, none⟩)] w fun e w' => e = .returned (S (bareS op s rest).1) ∧ Step b F w w' (bareS op s rest).2 := by
  have H := Lib.hid h
  have cx : w.cell? ⟨x, 0, none⟩ = some (.func (.func f) #[] #[]) := by simp [World.cell?, hx]
  by_cases hr : rest = []
  · have e0 : bareS op s rest = op s := by unfold bareS; rw [if_pos hr]
    rw [e0]
    subst hr
    clear e0
    go_enter Tryz.func97, Tryz.ntmps97
    go_wp2_with fail
    refine (hf w b s p F H.out G).mono ?_
    rintro e w1 ⟨rfl, hb1⟩
    have HB := Lib.hid hb1
    go_wp2
    go_ret
    exact ⟨rfl, HB.out⟩
  · have e0 : bareS op s rest = (replyL 501, s) := by unfold bareS; rw [if_neg hr]
    rw [e0]
    clear e0
    have hd : List.isEmpty rest = false := by simpa using hr
    go_enter Tryz.func97, Tryz.ntmps97
    go_wp2_with fail
    refine (reply_501 _ G).mono ?_
    rintro e w1 ⟨rfl, hb1⟩
    go_wp2
    go_ret
    exact ⟨rfl, Step.same (H.out.below hb1) (Kept.of_below hb1) G.sz⟩
theorem does_data : Does 65 dataS := fun w b s p F h G => data_calls w b s p F h G
theorem does_rset : Does 66 rsetS := fun w b s p F h G => rset_calls w b s p F h G
theorem does_quit : Does 67 quitS := fun w b s p F h G => quit_calls w b s p F h G

/-! ### RCPT -/
theorem containsS_S (l : List Bs) (x : Bs) : Lib.containsS (l.map fun y => (⟨y.toArray⟩ : ByteArray)) ⟨x.toArray⟩ = l.contains x := by
  rw [Bool.eq_iff_iff, Lib.containsS_iff, List.contains_iff_mem, List.mem_map]
  constructor
  · rintro ⟨y, hy, e⟩
    have : y = x := by simpa using e
    exact this ▸ hy
  · exact fun h => ⟨x, h, rfl⟩
theorem contains_calls (w : World) (tv : Value) (l : List Bs) (h : RowAt w 9 tv (strsV l)) (hl : l.length ≤ 1000000) (x : Bs) :
    Calls Tryz.prog 96 #[tv, S x] w fun e w' => e = .returned (.bool (l.contains x)) ∧ w' = w := by
  by_cases h0 : l = []
  · subst h0
    obtain ⟨a, c, rfl⟩ := h.slice
    refine (Tryz.slices_Contains_string_empty a c ⟨x.toArray⟩ w).mono ?_
    rintro e w' ⟨rfl, rfl⟩
    exact ⟨rfl, rfl⟩
  · obtain ⟨g, off, cap, rfl, hc⟩ := h.cells (by simpa [strsV] using h0)
    rw [strsV_len]
    refine (Tryz.slices_Contains_string g off l.length cap (l.map fun y => (⟨y.toArray⟩ : ByteArray)) ⟨x.toArray⟩ w (by simp) (by omega) (fun j hj => ?_)).mono ?_
    · have hj' : j < l.length := by simpa using hj
      have := hc j (S l[j]) (by simp [strsV, hj'])
      rw [this]
      simp [List.getD_eq_getElem?_getD, hj']
    · rintro e w' ⟨rfl, rfl⟩
      refine ⟨?_, rfl⟩
      rw [← containsS_S, List.take_of_length_le (by simp)]

def rcptP (s : Sess) : Option (Bs × Bs) → Bs × Sess
  | none => (replyL 501, s)
  | some (a, r) =>
    if r ≠ [] ∨ mayL a = false then (replyL 501, s) else
    if s.rcp.contains a then (replyL 250, s) else
    if 16 ≤ s.rcp.length then (replyL 452, s) else (replyL 250, { s with rcp := s.rcp ++ [a] })
def rcptS (s : Sess) (rest : Bs) : Bs × Sess := if s.sender = none then (replyL 503, s) else rcptP s (pathL rest [84, 79, 58])

set_option maxRecDepth 100000 in
theorem RowAt.put {w : World} {v : Value} {l : List Bs} (h : RowAt w 9 v (strsV l)) (h8 : 8 ≤ w.heap.size) (hl : l.length ≤ 1000000) (x : Bs) (g : Nat) (hg : w.cell? ⟨g, 0, none⟩ = some (S x)) :
    ∃ v' w', (Builtin.append_ #[22, 22] 22 #[v, .slice (some ⟨g, 0, none⟩) 1 1]).run Tryz.prog w = .ok v' w' ∧ RowAt w' 9 v' (strsV (l ++ [x])) ∧ w.grownBy w' v.ownBlock ∧ (∀ k, v'.ownBlock = some k → v.ownBlock = some k ∨ w.heap.size ≤ k) := by
  have e : strsV (l ++ [x]) = strsV l ++ [S x] := by simp [strsV]
  rw [e]
  exact RowAt.append (P := Tryz.prog) h h8 22 22 22 _ _ 16 Tryz.underlying22 (by rfl) (by rfl) (by rfl) (by rfl) (by rfl)
    (.slice (some ⟨g, 0, none⟩) 1 1) 1 [S x]
    (Src.ofSlice w Tryz.underlying22 _ _ _ _ rfl (fun j u hj => by
      cases j with
      | zero => simp at hj; subst hj; exact hg
      | succ j => simp at hj) (by simp [Value.oneCell'])) (by rw [strsV_len]; simp [maxLen]; omega) (by rw [strsV_len]; omega)

set_option maxRecDepth 100000 in
theorem rcpt_calls (w : World) (b : Nat) (s : Sess) (p : SP) (F : Nat → Prop) (h : SessAt w b s p F) (G : Glob w) (hto : s.rcp.length ≤ 16) (rest : Bs) (hrest : rest.length < 4294967281) :
    Calls Tryz.prog 63 #[.pointer (some ⟨b, 0, none⟩), S rest] w fun e w' => e = .returned (S (rcptS s rest).1) ∧ Step b F w w' (rcptS s rest).2 := by
  have H := Lib.hid h
  have c4 : w.cell? ⟨b, 4, none⟩ = some p.sv := h.cell 4
  cases hsd : s.sender with
  | none =>
    have e0 : rcptS s rest = (replyL 503, s) := by unfold rcptS; rw [if_pos hsd]
    have hsv : p.sv = .pointer none := by have := h.sender; rw [hsd] at this; exact this
    rw [hsv] at c4
    rw [e0]
    clear e0
    go_enter Tryz.func63, Tryz.ntmps63
    go_wp2_with fail
    refine (reply_503 _ G).mono ?_
    rintro e w1 ⟨rfl, hb1⟩
    go_wp2
    go_ret
    exact ⟨rfl, Step.same (H.out.below hb1) (Kept.of_below hb1) G.sz⟩
  | some from_ =>
    obtain ⟨sb, hsv, _⟩ : ∃ sb, p.sv = .pointer (some ⟨sb, 0, none⟩) ∧ True := by
      have := h.sender; rw [hsd] at this; obtain ⟨sb, e, _⟩ := this; exact ⟨sb, e, trivial⟩
    rw [hsv] at c4
    have hne : ¬ s.sender = none := by rw [hsd]; simp
    obtain ⟨pp, hp⟩ : ∃ pp, pathL rest [84, 79, 58] = pp := ⟨_, rfl⟩
    have e0 : rcptS s rest = rcptP s pp := by unfold rcptS; rw [if_neg hne, hp]
    have hpl : ∀ a r, pp = some (a, r) → a.length ≤ rest.length := fun a r e => (pathL_le (hp.trans e)).1
    rcases pp with _ | ⟨a, r⟩
    · have e1 : rcptS s rest = (replyL 501, s) := e0
      have E2 : Hid (pathV rest [84, 79, 58] = #[S [], S [], .bool false]) := by unfold Hid pathV; rw [hp]
      clear e0 hpl hp
      rw [e1]
      clear e1
      go_enter Tryz.func63, Tryz.ntmps63
      go_wp2_with fail
      refine (path_calls rest [84, 79, 58] hrest (by decide) _ G).mono ?_
      rw [E2.out]
      rintro e w1 ⟨rfl, hb1⟩
      have G1 := G.below' hb1
      have h1 := H.out.below hb1
      have H1 := Lib.hid h1
      have e5 := hb1.size
      go_wp2_with fail
      refine (reply_501 _ G1).mono ?_
      rintro e w2 ⟨rfl, hb2⟩
      go_wp2
      go_ret
      exact ⟨rfl, (Step.same H1.out (Kept.of_below hb1) G.sz).below hb2 G1.sz⟩
    · have E2 : Hid (pathV rest [84, 79, 58] = #[S a, S r, .bool true]) := by unfold Hid pathV; rw [hp]
      have hal := hpl a r rfl
      clear hp hpl
      by_cases hr : r = []
      · subst hr
        have hmr := mayL a
        cases hm : mayL a
        · have e1 : rcptS s rest = (replyL 501, s) := by rw [e0]; simp [rcptP, hm]
          have HM := Lib.hid hm
          clear e0 hm
          rw [e1]
          clear e1
          go_enter Tryz.func63, Tryz.ntmps63
          go_wp2_with fail
          refine (path_calls rest [84, 79, 58] hrest (by decide) _ G).mono ?_
          rw [E2.out]
          rintro e w1 ⟨rfl, hb1⟩
          have G1 := G.below' hb1
          have h1 := H.out.below hb1
          have H1 := Lib.hid h1
          have e5 := hb1.size

          go_wp2_with fail
          refine (may_calls a (by omega) _ G1).mono ?_
          rw [HM.out]
          rintro e w2 ⟨rfl, hb2⟩
          have G2 := G1.below' hb2
          go_wp2_with fail
          refine (reply_501 _ G2).mono ?_
          rintro e w3 ⟨rfl, hb3⟩
          go_wp2
          go_ret
          exact ⟨rfl, ((Step.same H1.out (Kept.of_below hb1) G.sz).below hb2 G1.sz).below hb3 G2.sz⟩
        · have HM := Lib.hid hm
          obtain ⟨ta, tc, htv⟩ := h.rcp.slice
          rw [strsV_len] at htv
          cases hcn : s.rcp.contains a
          · have HC := Lib.hid hcn
            by_cases h16 : 16 ≤ s.rcp.length
            · have e1 : rcptS s rest = (replyL 452, s) := by
                rw [e0]; simp only [rcptP, hm, hcn, if_pos h16]; simp
              have d16 : decide (16 ≤ (s.rcp.length : Int)) = true := by simp; omega
              clear e0 hm hcn
              rw [e1]
              clear e1
              go_enter Tryz.func63, Tryz.ntmps63
              go_wp2_with fail
              refine (path_calls rest [84, 79, 58] hrest (by decide) _ G).mono ?_
              rw [E2.out]
              rintro e w1 ⟨rfl, hb1⟩
              have G1 := G.below' hb1
              have h1 := H.out.below hb1
              have H1 := Lib.hid h1
              have e5 := hb1.size
              go_wp2_with fail
              refine (may_calls a (by omega) _ G1).mono ?_
              rw [HM.out]
              rintro e w2 ⟨rfl, hb2⟩
              have G2 := G1.below' hb2
              have h2 := H1.out.below hb2
              have H2 := Lib.hid h2
              have c5 : w2.cell? ⟨b, 5, none⟩ = some p.tv := h2.cell 5
              have f5 := h2.frozen 5
              rw [htv] at c5
              go_wp2_with fail
              refine (contains_calls w2 _ s.rcp (by rw [← htv]; exact H2.out.rcp) (by omega) a).mono ?_
              rw [HC.out]
              rintro e w2' ⟨rfl, hw2⟩
              rw [hw2]
              clear hw2 w2'
              go_wp2_with fail
              refine (reply_452 _ G2).mono ?_
              rintro e w3 ⟨rfl, hb3⟩
              go_wp2
              go_ret
              exact ⟨rfl, ((Step.same H1.out (Kept.of_below hb1) G.sz).below hb2 G1.sz).below hb3 G2.sz⟩
            · have e1 : rcptS s rest = (replyL 250, { s with rcp := s.rcp ++ [a] }) := by
                rw [e0]; simp only [rcptP, hm, hcn, if_neg h16]; simp
              have d16 : decide (16 ≤ (s.rcp.length : Int)) = false := by simp; omega
              clear e0 hm hcn
              rw [e1]
              clear e1
              go_enter Tryz.func63, Tryz.ntmps63
              go_wp2_with fail
              refine (path_calls rest [84, 79, 58] hrest (by decide) _ G).mono ?_
              rw [E2.out]
              rintro e w1 ⟨rfl, hb1⟩
              have G1 := G.below' hb1
              have h1 := H.out.below hb1
              have H1 := Lib.hid h1
              have e5 := hb1.size
              go_wp2_with fail
              refine (may_calls a (by omega) _ G1).mono ?_
              rw [HM.out]
              rintro e w2 ⟨rfl, hb2⟩
              have G2 := G1.below' hb2
              have h2 := H1.out.below hb2
              have H2 := Lib.hid h2
              have c5 : w2.cell? ⟨b, 5, none⟩ = some p.tv := h2.cell 5
              have f5 := h2.frozen 5
              rw [htv] at c5
              go_wp2_with fail
              refine (contains_calls w2 _ s.rcp (by rw [← htv]; exact H2.out.rcp) (by omega) a).mono ?_
              rw [HC.out]
              rintro e w2' ⟨rfl, hw2⟩
              rw [hw2]
              clear hw2 w2'
              obtain ⟨w3, hw3⟩ : ∃ w3, w2.alloc (.cells #[S a] 9) = w3 := ⟨_, rfl⟩
              have hb3 : Below w2.heap.size w2 w3 := by rw [← hw3]; exact (Below.refl _ _).alloc (Nat.le_refl _) _
              have h3 := H2.out.below hb3
              have hbox : w3.cell? ⟨w2.heap.size, 0, none⟩ = some (S a) := by rw [← hw3]; exact World.cell?_alloc_new _ _ _ 0
              have htl : RowAt w3 9 (.slice ta s.rcp.length tc) (strsV s.rcp) := by rw [← htv]; exact h3.rcp
              obtain ⟨v', w4, happ, hr4, hg4, hv4⟩ := htl.put (by have := hb3.size; have := G2.sz; omega) (by omega) a _ hbox
              obtain ⟨va, vc, rfl⟩ := hr4.slice
              rw [strsV_len] at happ hr4 hv4
              rw [← htv] at hg4
              have hs4 : SessAt (w4.setCell ⟨b, 5, none⟩ (.slice va (s.rcp ++ [a]).length vc)) b { s with rcp := s.rcp ++ [a] } { p with tv := .slice va (s.rcp ++ [a]).length vc } (Fresh F w3 w4) :=
                h3.setTo (by have := hb3.size; have := G2.sz; omega) hg4 _ _ hr4 (fun k q => by rw [htv]; exact hv4 k q)
              have hoth := (h3.others hg4 (fun k q => h3.rcp.kind k q) h3.sep.ts).1
              have c5' : w4.cell? ⟨b, 5, none⟩ = some p.tv := by simp [World.cell?, hoth, cellsOf]
              have f5' : w4.frozen? ⟨b, 5, none⟩ = false := by simp [World.frozen?, hoth]
              have hkw : Kept F w (w4.setCell ⟨b, 5, none⟩ (.slice va (s.rcp ++ [a]).length vc)) := by
                refine H.out.k4 (Kept.grown (b := w3) ?_ hg4 fun k q => .inl (H.out.foot k (.inr (.inr (.inr (.inr (.inl q))))))) _ _
                exact (Kept.of_below (below_then' (below_then' hb1 hb2) hb3))
              obtain ⟨w5, hw5⟩ : ∃ w5, w4.setCell ⟨b, 5, none⟩ (.slice va (s.rcp ++ [a]).length vc) = w5 := ⟨_, rfl⟩
              have e4 : w4.heap.size = w5.heap.size := by rw [← hw5]; simp [World.setCell]
              rw [hw5] at hs4 hkw
              have G5 := H.out.glob G hkw
              simp only [List.length_append, List.length_cons, List.length_nil, Nat.zero_add] at hw5 happ
              rw [htv] at c5'
              rw [← hw3] at happ
              have HW3 := Lib.hid hw3
              clear hw3
              have HS := Lib.hid hs4
              have HK := Lib.hid hkw
              clear hs4 hkw
              go_wp2_with (at_builtin; refine Lib.wpList_append_run _ rfl _ _ 22 22 rfl _ _ rfl rfl _ _ happ ?_)
              refine (reply_250 _ G5).mono ?_
              rintro e w6 ⟨rfl, hb6⟩
              go_wp2
              go_ret
              refine ⟨rfl, Step.below ⟨HK.out, _, HS.out.wide (fun k q => ?_) (fun k q => ?_)⟩ hb6 G5.sz⟩
              · have z1 := hb2.size
                have z2 := hb3.size
                rcases q with q | q
                · exact .inl q
                · exact .inr ⟨by omega, by omega⟩
              · rcases q with q | q
                · exact HS.out.blk k (.inl q)
                · have := G.sz; exact ⟨by omega, q.2⟩
          · have HC := Lib.hid hcn
            have e1 : rcptS s rest = (replyL 250, s) := by
              rw [e0]; simp only [rcptP, hm, hcn]; simp
            clear e0 hm hcn
            rw [e1]
            clear e1
            go_enter Tryz.func63, Tryz.ntmps63
            go_wp2_with fail
            refine (path_calls rest [84, 79, 58] hrest (by decide) _ G).mono ?_
            rw [E2.out]
            rintro e w1 ⟨rfl, hb1⟩
            have G1 := G.below' hb1
            have h1 := H.out.below hb1
            have H1 := Lib.hid h1
            have e5 := hb1.size
            go_wp2_with fail
            refine (may_calls a (by omega) _ G1).mono ?_
            rw [HM.out]
            rintro e w2 ⟨rfl, hb2⟩
            have G2 := G1.below' hb2
            have h2 := H1.out.below hb2
            have H2 := Lib.hid h2
            have c5 : w2.cell? ⟨b, 5, none⟩ = some p.tv := h2.cell 5
            have f5 := h2.frozen 5
            rw [htv] at c5
            go_wp2_with fail
            refine (contains_calls w2 _ s.rcp (by rw [← htv]; exact H2.out.rcp) (by omega) a).mono ?_
            rw [HC.out]
            rintro e w2' ⟨rfl, hw2⟩
            rw [hw2]
            clear hw2 w2'
            go_wp2_with fail
            refine (reply_250 _ G2).mono ?_
            rintro e w3 ⟨rfl, hb3⟩
            go_wp2
            go_ret
            exact ⟨rfl, ((Step.same H1.out (Kept.of_below hb1) G.sz).below hb2 G1.sz).below hb3 G2.sz⟩
      · have hd : List.isEmpty r = false := by simpa using hr
        have e1 : rcptS s rest = (replyL 501, s) := by rw [e0]; simp [rcptP, hr]
        clear e0
        rw [e1]
        clear e1
        go_enter Tryz.func63, Tryz.ntmps63
        go_wp2_with fail
        refine (path_calls rest [84, 79, 58] hrest (by decide) _ G).mono ?_
        rw [E2.out]
        rintro e w1 ⟨rfl, hb1⟩
        have G1 := G.below' hb1
        have h1 := H.out.below hb1
        have H1 := Lib.hid h1
        have e5 := hb1.size

        go_wp2_with fail
        refine (reply_501 _ G1).mono ?_
        rintro e w3 ⟨rfl, hb3⟩
        go_wp2
        go_ret
        exact ⟨rfl, (Step.same H1.out (Kept.of_below hb1) G.sz).below hb3 G1.sz⟩
end Go.Proofs.YtapanjfheddfnaaGreatDoor
