/- Feed. -/
import Derived.Test.YtapanjfheddfnaaGreatDoorLine
import Derived.Test.YtapanjfheddfnaaGreatDoorPush
namespace Go.Proofs.YtapanjfheddfnaaGreatDoor
open Go.RowKit Go.Shelf
attribute [local go_sem high] ext_to ext_from
attribute [local go_sem] ext_list app_list size_list

def turnS (s : Sess) (x : Bs) : Bs × Sess := match s.body with | some y => lineS s y x | none => commandS s x
def runF : Nat → Sess → Bs → Bs × Sess
  | 0, s, out => (out, s)
  | n + 1, s, out => match s.kept with
    | [] => (out, s)
    | x :: ks => if s.waits || s.over then (out, s) else runF n (turnS { s with kept := ks } x).2 (out ++ (turnS { s with kept := ks } x).1)
def pushedS (s : Sess) (chunk : Bs) : Sess := { s with rest := (pushL s.rest chunk).1, kept := s.kept ++ (pushL s.rest chunk).2 }
def feedS (s : Sess) (chunk : Bs) : Bs × Sess := runF (pushedS s chunk).kept.length (pushedS s chunk) []

/-- How much a session holds, and that it stands well. -/
def vol (s : Sess) : Nat := s.rest.length + (s.kept.map fun x => x.length + 1).sum + (s.body.getD []).length
/-- Recipients, a body, a message that waits: only behind a sender. -/
structure Inv (s : Sess) : Prop where
  rto : s.rcp ≠ [] → s.sender ≠ none
  body : s.body ≠ none → s.sender ≠ none
  waits : s.waits = true → s.body ≠ none
structure Ok (s : Sess) (T : Nat) : Prop where
  most : s.most ≤ 9223372036854775807
  rest : s.rest.length ≤ 1000
  rcp : s.rcp.length ≤ 16
  vol : vol s ≤ T
  inv : Inv s

/-- What a command or a line leaves alone. -/
structure Turned (n : Nat) (s s' : Sess) (o : Bs) : Prop where
  out : o.length ≤ 200
  most : s'.most = s.most
  rest : s'.rest = s.rest
  kept : s'.kept = s.kept
  rcp : s.rcp.length ≤ 16 → s'.rcp.length ≤ 16
  body : (s'.body.getD []).length ≤ (s.body.getD []).length + n
  inv : Inv s → Inv s'
theorem Turned.same {n : Nat} {s : Sess} {o : Bs} (h : o.length ≤ 200) : Turned n s s o := ⟨h, rfl, rfl, rfl, id, Nat.le_add_right _ _, id⟩
theorem rl (c : Int) (h : c ∈ ([220, 221, 250, 252, 354, 451, 452, 500, 501, 503, 552, 554] : List Int)) : (replyL c).length ≤ 40 := by
  revert c
  decide +kernel
theorem hello_turned {n : Nat} {s : Sess} (hb : s.body = none) (hw : s.waits = false) (rest more : Bs) (hm : more.length ≤ 100) : Turned n s (helloS s rest more).2 (helloS s rest more).1 := by
  unfold helloS
  split
  · exact Turned.same (Nat.le_trans (rl 501 (by decide)) (by omega))
  · refine ⟨?_, rfl, rfl, rfl, fun _ => by simp [resetS], by simp [resetS, hb], fun _ => ⟨fun q => absurd rfl q, fun q => absurd hb q, fun q => ?_⟩⟩
    · have := rl 250 (by decide)
      simp only [List.length_append]; omega
    · simp only [resetS] at q; rw [hw] at q; cases q
theorem mail_turned {n : Nat} {s : Sess} (hb : s.body = none) (hw : s.waits = false) (rest : Bs) : Turned n s (mailS s rest).2 (mailS s rest).1 := by
  have r1 : ∀ c, c ∈ ([220, 221, 250, 252, 354, 451, 452, 500, 501, 503, 552, 554] : List Int) → (replyL c).length ≤ 200 := fun c hc => Nat.le_trans (rl c hc) (by omega)
  unfold mailS
  split
  · exact Turned.same (r1 503 (by decide))
  · cases pathL rest [70, 82, 79, 77, 58] with
    | none => exact Turned.same (r1 501 (by decide))
    | some ar =>
      obtain ⟨a, r⟩ := ar
      simp only [mailP]
      split
      · exact Turned.same (r1 501 (by decide))
      · cases optL r with
        | none => exact Turned.same (r1 501 (by decide))
        | some z =>
          simp only
          split
          · exact Turned.same (r1 552 (by decide))
          · exact ⟨r1 250 (by decide), rfl, rfl, rfl, id, Nat.le_add_right _ _, fun i => ⟨fun _ q => (by cases q), fun _ q => (by cases q), i.waits⟩⟩
theorem rcpt_turned {n : Nat} {s : Sess} (rest : Bs) : Turned n s (rcptS s rest).2 (rcptS s rest).1 := by
  have r1 : ∀ c, c ∈ ([220, 221, 250, 252, 354, 451, 452, 500, 501, 503, 552, 554] : List Int) → (replyL c).length ≤ 200 := fun c hc => Nat.le_trans (rl c hc) (by omega)
  unfold rcptS
  split
  · exact Turned.same (r1 503 (by decide))
  · rename_i hs
    cases pathL rest [84, 79, 58] with
    | none => exact Turned.same (r1 501 (by decide))
    | some ar =>
      obtain ⟨a, r⟩ := ar
      simp only [rcptP]
      split
      · exact Turned.same (r1 501 (by decide))
      · split
        · exact Turned.same (r1 250 (by decide))
        · split
          · exact Turned.same (r1 452 (by decide))
          · exact ⟨r1 250 (by decide), rfl, rfl, rfl, fun _ => by simp; omega, Nat.le_add_right _ _, fun i => ⟨fun _ => hs, i.body, i.waits⟩⟩
theorem bare_turned {n : Nat} {s : Sess} {f : Sess → Bs × Sess} (hf : Turned n s (f s).2 (f s).1) (rest : Bs) : Turned n s (bareS f s rest).2 (bareS f s rest).1 := by
  unfold bareS
  split
  · exact hf
  · exact Turned.same (Nat.le_trans (rl 501 (by decide)) (by omega))
theorem do_turned {n : Nat} {s : Sess} (hb : s.body = none) (hw : s.waits = false) (hm : s.most ≤ 9223372036854775807) (verb rest : Bs) : Turned n s (doS s verb rest).2 (doS s verb rest).1 := by
  have r1 : ∀ c, c ∈ ([220, 221, 250, 252, 354, 451, 452, 500, 501, 503, 552, 554] : List Int) → (replyL c).length ≤ 200 := fun c hc => Nat.le_trans (rl c hc) (by omega)
  unfold doS
  repeat' split
  · refine hello_turned hb hw _ _ ?_
    unfold ehloT
    have := itoa_le s.most hm
    simp only [List.length_append, List.length_cons, List.length_nil]
    omega
  · exact hello_turned hb hw _ _ (by simp)
  · exact mail_turned hb hw _
  · exact rcpt_turned _
  · refine bare_turned ?_ _
    unfold dataS
    split
    · exact Turned.same (r1 503 (by decide))
    · rename_i hr
      exact ⟨r1 354 (by decide), rfl, rfl, rfl, id, by simp, fun i => ⟨i.rto, fun _ => i.rto hr, fun q => by simp only at q; rw [hw] at q; cases q⟩⟩
  · refine bare_turned ?_ _
    exact ⟨r1 250 (by decide), rfl, rfl, rfl, fun _ => by simp [rsetS, resetS], Nat.le_add_right _ _, fun _ => ⟨fun q => absurd rfl q, fun q => absurd hb q, fun q => by simp only [rsetS, resetS] at q; rw [hw] at q; cases q⟩⟩
  · refine bare_turned ?_ _
    exact ⟨r1 221 (by decide), rfl, rfl, rfl, id, Nat.le_add_right _ _, fun i => ⟨i.rto, i.body, i.waits⟩⟩
  · exact Turned.same (r1 250 (by decide))
  · exact Turned.same (r1 252 (by decide))
  · exact Turned.same (r1 500 (by decide))
theorem line_turned {s : Sess} {y : Bs} (hb : s.body = some y) (hw : s.waits = false) (l : Bs) : Turned l.length s (lineS s y l).2 (lineS s y l).1 := by
  have r1 : ∀ c, c ∈ ([220, 221, 250, 252, 354, 451, 452, 500, 501, 503, 552, 554] : List Int) → (replyL c).length ≤ 200 := fun c hc => Nat.le_trans (rl c hc) (by omega)
  unfold lineS
  split
  · refine ⟨by simp, rfl, rfl, rfl, id, ?_, fun i => ⟨i.rto, fun _ => i.body (by rw [hb]; simp), fun _ q => by cases q⟩⟩
    have := trimPrefix_le l [46]
    simp [hb]; omega
  · split
    · exact ⟨r1 500 (by decide), rfl, rfl, rfl, fun _ => by simp [resetS], by simp [resetS], fun _ => ⟨fun q => absurd rfl q, fun q => absurd rfl q, fun q => by simp only [resetS] at q; rw [hw] at q; cases q⟩⟩
    · split
      · exact ⟨r1 552 (by decide), rfl, rfl, rfl, fun _ => by simp [resetS], by simp [resetS], fun _ => ⟨fun q => absurd rfl q, fun q => absurd rfl q, fun q => by simp only [resetS] at q; rw [hw] at q; cases q⟩⟩
      · exact ⟨by simp, rfl, rfl, rfl, id, Nat.le_add_right _ _, fun i => ⟨i.rto, i.body, fun _ => by simp only; rw [hb]; simp⟩⟩
theorem turn_turned {s : Sess} (hw : s.waits = false) (hm : s.most ≤ 9223372036854775807) (x : Bs) : Turned x.length s (turnS s x).2 (turnS s x).1 := by
  unfold turnS
  cases hb : s.body with
  | some y => exact line_turned hb hw x
  | none =>
    simp only
    unfold commandS
    split
    · exact do_turned hb hw hm _ _
    · exact Turned.same (Nat.le_trans (rl 500 (by decide)) (by omega))
theorem turn_ok {s : Sess} {T : Nat} {x : Bs} {ks : List Bs} (hk : s.kept = x :: ks) (hw : s.waits = false) (h : Ok s T) : Ok (turnS { s with kept := ks } x).2 T ∧ (turnS { s with kept := ks } x).2.kept = ks ∧ (turnS { s with kept := ks } x).1.length ≤ 200 := by
  have t := turn_turned (s := { s with kept := ks }) hw h.most x
  refine ⟨⟨by rw [t.most]; exact h.most, by rw [t.rest]; exact h.rest, t.rcp h.rcp, ?_, t.inv ⟨h.inv.rto, h.inv.body, h.inv.waits⟩⟩, t.kept, t.out⟩
  have hv := h.vol
  unfold vol at hv ⊢
  rw [t.rest, t.kept]
  rw [hk] at hv
  have hb := t.body
  simp only [List.map_cons, List.sum_cons] at hv hb ⊢
  omega
theorem fold_vol (l : List Bs) (st : Bs × List Bs) : ((l.foldl stepL st).2.map fun x => x.length + 1).sum + (l.foldl stepL st).1.length ≤ (st.2.map fun x => x.length + 1).sum + st.1.length + (l.map fun x => x.length + 1).sum := by
  induction l generalizing st with
  | nil => simp
  | cons x l ih =>
    have h1 := ih (stepL st x)
    have h2 : ((stepL st x).2.map fun x => x.length + 1).sum + (stepL st x).1.length ≤ (st.2.map fun x => x.length + 1).sum + st.1.length + (x.length + 1) := by
      unfold stepL
      split <;> simp <;> omega
    simp only [List.foldl_cons, List.map_cons, List.sum_cons]
    omega
theorem lines_vol (s : Bs) : ((linesL s).map fun x => x.length + 1).sum ≤ 2 * s.length := by
  refine linesL_ind (p := fun s l => (l.map fun x => x.length + 1).sum ≤ 2 * s.length) (by simp) (fun s hs _ => ?_) (fun s l hc h => ?_) s
  · have := List.length_pos_iff.2 hs; simp; omega
  · have := cut_parts s hc
    simp; omega
theorem pushed_ok {s : Sess} {T : Nat} {chunk : Bs} (h : Ok s T) : Ok (pushedS s chunk) (T + 2 * chunk.length) := by
  have e1 := fold_vol (linesL chunk) (s.rest, [])
  have e2 := lines_vol chunk
  refine ⟨h.most, foldL_le _ _ h.rest, h.rcp, ?_, ⟨h.inv.rto, h.inv.body, h.inv.waits⟩⟩
  have hv := h.vol
  unfold vol at hv ⊢
  simp only [pushedS, pushL, List.map_append, List.sum_append] at e1 ⊢
  simp only [List.map_nil, List.sum_nil] at e1
  omega

theorem turn_calls_line (w : World) (b : Nat) (s : Sess) (p : SP) (F : Nat → Prop) (h : SessAt w b s p F) (G : Glob w) (y : Bs) (hy : s.body = some y) (hm : s.most ≤ 9223372036854775807) (l : Bs) (hl : l.length ≤ 1000000) (hyl : y.length ≤ 1000000000) :
    Calls Tryz.prog 37 #[.pointer (some ⟨b, 0, none⟩), S l] w fun e w' => e = .returned (S (turnS s l).1) ∧ Step b F w w' (turnS s l).2 := by
  have : turnS s l = lineS s y l := by unfold turnS; rw [hy]
  rw [this]; exact line_calls w b s p F h G y hy hm l hl hyl
theorem turn_calls_cmd (w : World) (b : Nat) (s : Sess) (p : SP) (F : Nat → Prop) (h : SessAt w b s p F) (G : Glob w) (hy : s.body = none) (hm : s.most ≤ 9223372036854775807) (hto : s.rcp.length ≤ 16) (l : Bs) (hl : l.length ≤ 1000000) :
    Calls Tryz.prog 38 #[.pointer (some ⟨b, 0, none⟩), S l] w fun e w' => e = .returned (S (turnS s l).1) ∧ Step b F w w' (turnS s l).2 := by
  have : turnS s l = commandS s l := by unfold turnS; rw [hy]
  rw [this]; exact command_calls w b s p F h G hm hto l hl

section
variable {W W' : World} {b : Nat} {s : Sess} {p : SP} {F : Nat → Prop}
/-- The feed has taken a chunk. -/
theorem SessAt.pushed (h : SessAt W b s p F) (h8 : 8 ≤ W.heap.size) (hk : Kept (fun k => k = p.fb ∨ p.rv.ownBlock = some k) W W') (rv' : Value) (r' : Bs) (hf : W'.heap[p.fb]? = some (.cells #[.int .i64 1000, rv'] 82 (0, 0))) (hr : RowAt W' 5 rv' (bytesV r'))
    (hv : ∀ k, rv'.ownBlock = some k → p.rv.ownBlock = some k ∨ W.heap.size ≤ k) : SessAt W' b { s with rest := r' } { p with rv := rv' } (Fresh F W W') := by
  have lt : ∀ k, Go.Proofs.YtapanjfheddfnaaGreatDoor.foot b p k → k < W.heap.size := fun k q => (h.blk k (h.foot k q)).2
  have nk : ∀ (k : Nat) (o : Obj), W.heap[k]? = some o → (∀ c, o ≠ Obj.cells c 82 (0, 0)) → (∀ c, o ≠ Obj.cells c 5 (0, 0)) → W'.heap[k]? = W.heap[k]? := by
    intro k o hko h1 h2
    refine hk.block k (Array.getElem?_eq_some_iff.1 hko).1 ?_
    rintro (rfl | e)
    · rw [h.hf] at hko; exact h1 _ (Option.some.inj hko).symm
    · obtain ⟨c, hc⟩ := h.rest.kind k e
      rw [hc] at hko; exact h2 _ (Option.some.inj hko).symm
  have row9 : ∀ {v : Value} {xs : List Value}, RowAt W 9 v xs → RowAt W' 9 v xs := fun hv => hv.heap fun k q => by
    obtain ⟨c, hc⟩ := hv.kind k q
    exact nk k _ hc (by simp) (by simp)
  have snd : SendAt W' p.sv s.sender := h.sender.heap fun k q => by
    have hsd := h.sender
    cases hx : s.sender with
    | none => rw [hx] at hsd; rw [show p.sv = .pointer none from hsd] at q; cases q
    | some a =>
      rw [hx] at hsd
      obtain ⟨sb, e, _, hc⟩ := hsd
      rw [e] at q; cases q
      exact nk _ _ hc (by simp) (by simp)
  have bod : BodyAt W' p.bv p.yv s.body := h.body.heap (fun k q => by
      have hbd := h.body
      cases hx : s.body with
      | none => rw [hx] at hbd; rw [hbd.1] at q; cases q
      | some a =>
        rw [hx] at hbd
        obtain ⟨bb, e, _, ⟨pp, _, hc⟩, _⟩ := hbd
        rw [e] at q; cases q
        exact nk _ _ hc (by simp) (by simp)) fun k q => hk.block k (lt k (.inr (.inr (.inr (.inr (.inr (.inr (.inr q)))))))) (by
      rintro (rfl | e)
      · have hbd := h.body
        cases hx : s.body with
        | none => rw [hx] at hbd; rw [hbd.2] at q; cases q
        | some a =>
          rw [hx] at hbd
          obtain ⟨bb, _, _, _, hrr⟩ := hbd
          obtain ⟨_, c, fz, hc⟩ := hrr.kind _ q
          rw [h.hf] at hc; simp at hc
      · exact h.sep.ry k e q)
  refine ⟨fun k q => ?_, Fresh.blk h hk.size h8, (nk _ _ h.hs (by simp) (by simp)).trans h.hs, hf, hr, row9 h.kept, row9 h.rcp, snd, bod, ⟨h.sep.kt, h.sep.ks, h.sep.ts, fun k q1 q2 => ?_⟩⟩
  · rcases q with q | q | q | q | q | q | q | q
    · exact .inl (h.foot k (.inl q))
    · exact .inl (h.foot k (.inr (.inl q)))
    · rcases hv k q with e | e
      · exact .inl (h.foot k (.inr (.inr (.inl e))))
      · exact .inr ⟨e, (hr.lt k q).2⟩
    · exact .inl (h.foot k (.inr (.inr (.inr (.inl q)))))
    · exact .inl (h.foot k (.inr (.inr (.inr (.inr (.inl q))))))
    · exact .inl (h.foot k (.inr (.inr (.inr (.inr (.inr (.inl q)))))))
    · exact .inl (h.foot k (.inr (.inr (.inr (.inr (.inr (.inr (.inl q))))))))
    · exact .inl (h.foot k (.inr (.inr (.inr (.inr (.inr (.inr (.inr q))))))))
  · rcases hv k q1 with e | e
    · exact h.sep.ry k e q2
    · have := lt k (.inr (.inr (.inr (.inr (.inr (.inr (.inr q2))))))); omega
end

/-- A row of strings as what is appended. -/
theorem RowAt.src {w : World} {v : Value} {l : List Bs} (h : RowAt w 9 v (strsV l)) : Src Tryz.prog 1 22 v l.length (strsV l) w := by
  obtain ⟨a, c, hv⟩ := h.slice
  rw [strsV_len] at hv
  rcases h with ⟨rfl, hl⟩ | ⟨g, off, cap, cur, rfl, h8, hg, h1, h2, h3, h4⟩
  · have : l = [] := by simpa [strsV] using hl
    subst this
    exact Src.ofNil w Tryz.underlying22 0
  · rw [strsV_len]
    refine Src.ofSlice w Tryz.underlying22 _ _ _ _ (by rw [strsV_len]; omega) (fun j u hj => ?_) (fun u hu => ?_)
    · rw [Addr.add_lit]
      by_cases h0 : l = []
      · subst h0; simp [strsV] at hj
      · obtain ⟨g', off', cap', e, hc⟩ := RowAt.cells (w := w) (e := 9) (v := .slice (some ⟨g, off, none⟩) (strsV l).length cap) (xs := strsV l) (.inr ⟨g, off, cap, cur, rfl, h8, hg, h1, h2, h3, h4⟩) (by simpa [strsV] using h0)
        cases e
        exact hc j u hj
    · obtain ⟨x, _, rfl⟩ := List.mem_map.1 hu
      rfl
end Go.Proofs.YtapanjfheddfnaaGreatDoor
