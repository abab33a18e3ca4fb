/- A session in the heap: which blocks it holds, what it holds, what a store, a frame, an allocation leave of it. No program here but the types' numbers. -/
import Derived.Test.YtapanjfheddfnaaGreatDoorBuilt
import Derived.RangeFuncBox
namespace Go.Proofs.YtapanjfheddfnaaGreatDoor
open Go.RowKit Go.Shelf

structure Sess where
  most : Nat
  rest : Bs := []
  kept : List Bs := []
  greeted : Bool := false
  sender : Option Bs := none
  rcp : List Bs := []
  body : Option Bs := none
  long : Bool := false
  waits : Bool := false
  over : Bool := false

/-- Where its parts lie: the feed's block, the feed's rest, the kept lines, the sender, the recipients, the body, the body's buffer. -/
structure SP where
  fb : Nat
  rv : Value
  kv : Value
  sv : Value
  tv : Value
  bv : Value
  yv : Value

def cellsOf (s : Sess) (p : SP) : Array Value := #[.int .i64 s.most, .pointer (some ⟨p.fb, 0, none⟩), p.kv, .bool s.greeted, p.sv, p.tv, p.bv, .bool s.long, .bool s.waits, .bool s.over]
def ptrBlock : Value → Option Nat
  | .pointer (some a) => some a.block
  | _ => none
def foot (b : Nat) (p : SP) (k : Nat) : Prop := k = b ∨ k = p.fb ∨ p.rv.ownBlock = some k ∨ p.kv.ownBlock = some k ∨ p.tv.ownBlock = some k ∨ ptrBlock p.sv = some k ∨ ptrBlock p.bv = some k ∨ p.yv.ownBlock = some k
def SendAt (W : World) (sv : Value) : Option Bs → Prop
  | none => sv = .pointer none
  | some a => ∃ sb, sv = .pointer (some ⟨sb, 0, none⟩) ∧ 8 ≤ sb ∧ Boxed W sb 9 (S a)
def BodyAt (W : World) (bv yv : Value) : Option Bs → Prop
  | none => bv = .pointer none ∧ yv = .slice none 0 0
  | some l => ∃ bb, bv = .pointer (some ⟨bb, 0, none⟩) ∧ BuiltAt W bb yv l
structure Sep (p : SP) : Prop where
  kt : ∀ k, p.kv.ownBlock = some k → ¬ p.tv.ownBlock = some k
  ks : ∀ k, p.kv.ownBlock = some k → ¬ ptrBlock p.sv = some k
  ts : ∀ k, p.tv.ownBlock = some k → ¬ ptrBlock p.sv = some k
  ry : ∀ k, p.rv.ownBlock = some k → ¬ p.yv.ownBlock = some k

structure SessAt (W : World) (b : Nat) (s : Sess) (p : SP) (F : Nat → Prop) : Prop where
  foot : ∀ k, foot b p k → F k
  blk : ∀ k, F k → 8 ≤ k ∧ k < W.heap.size
  hs : W.heap[b]? = some (.cells (cellsOf s p) 62 (0, 0))
  hf : W.heap[p.fb]? = some (.cells #[.int .i64 1000, p.rv] 82 (0, 0))
  rest : RowAt W 5 p.rv (bytesV s.rest)
  kept : RowAt W 9 p.kv (strsV s.kept)
  rcp : RowAt W 9 p.tv (strsV s.rcp)
  sender : SendAt W p.sv s.sender
  body : BodyAt W p.bv p.yv s.body
  sep : Sep p

theorem SendAt.heap {W W' : World} {sv : Value} {x : Option Bs} (h : SendAt W sv x) (hk : ∀ k, ptrBlock sv = some k → W'.heap[k]? = W.heap[k]?) : SendAt W' sv x := by
  cases x with
  | none => exact h
  | some a =>
    obtain ⟨sb, rfl, h8, hb⟩ := h
    exact ⟨sb, rfl, h8, (hk sb rfl).trans hb⟩
theorem BodyAt.heap {W W' : World} {bv yv : Value} {x : Option Bs} (h : BodyAt W bv yv x) (hk : ∀ k, ptrBlock bv = some k → W'.heap[k]? = W.heap[k]?) (hy : ∀ k, yv.ownBlock = some k → W'.heap[k]? = W.heap[k]?) : BodyAt W' bv yv x := by
  cases x with
  | none => exact h
  | some l =>
    obtain ⟨bb, rfl, hb⟩ := h
    exact ⟨bb, rfl, hb.heap (hk bb rfl) hy⟩

section
variable {W W' : World} {b : Nat} {s s' : Sess} {p p' : SP} {F F' : Nat → Prop}

/-- The parts' kinds: none but the session's own block is a session. -/
theorem parts_ne {k : Nat} {C : Array Value} (hb : W.heap[b]? = some (.cells C 62 (0, 0))) (hf : W.heap[p.fb]? = some (.cells #[.int .i64 1000, p.rv] 82 (0, 0))) (hr : RowAt W 5 p.rv (bytesV s.rest)) (hk : RowAt W 9 p.kv (strsV s.kept)) (ht : RowAt W 9 p.tv (strsV s.rcp)) (hsd : SendAt W p.sv s.sender) (hbd : BodyAt W p.bv p.yv s.body)
    (h : k = p.fb ∨ p.rv.ownBlock = some k ∨ p.kv.ownBlock = some k ∨ p.tv.ownBlock = some k ∨ ptrBlock p.sv = some k ∨ ptrBlock p.bv = some k ∨ p.yv.ownBlock = some k) : k ≠ b := by
  rintro rfl
  rcases h with rfl | h | h | h | h | h | h
  · rw [hf] at hb; simp at hb
  · obtain ⟨c, hc⟩ := hr.kind k h; rw [hc] at hb; simp at hb
  · obtain ⟨c, hc⟩ := hk.kind k h; rw [hc] at hb; simp at hb
  · obtain ⟨c, hc⟩ := ht.kind k h; rw [hc] at hb; simp at hb
  · cases hx : s.sender with
    | none => rw [hx] at hsd; rw [show p.sv = .pointer none from hsd] at h; cases h
    | some a =>
      rw [hx] at hsd
      obtain ⟨sb, e, _, hc⟩ := hsd
      rw [e] at h; cases h
      rw [show W.heap[sb]? = _ from hc] at hb; simp at hb
  · cases hx : s.body with
    | none => rw [hx] at hbd; rw [hbd.1] at h; cases h
    | some a =>
      rw [hx] at hbd
      obtain ⟨bb, e, _, ⟨q, _, hc⟩, _⟩ := hbd
      rw [e] at h; cases h
      rw [hc] at hb; simp at hb
  · cases hx : s.body with
    | none => rw [hx] at hbd; rw [hbd.2] at h; cases h
    | some a =>
      rw [hx] at hbd
      obtain ⟨bb, e, _, _, hr⟩ := hbd
      obtain ⟨_, c, fz, hc⟩ := hr.kind k h
      rw [hc] at hb; simp at hb

/-- A session is made by the store of one cell. -/
theorem SessAt.make {C : Array Value} (hs : W.heap[b]? = some (.cells C 62 (0, 0))) (hf' : W.heap[p'.fb]? = some (.cells #[.int .i64 1000, p'.rv] 82 (0, 0))) (hr' : RowAt W 5 p'.rv (bytesV s'.rest))
    (hk : RowAt W 9 p'.kv (strsV s'.kept)) (ht : RowAt W 9 p'.tv (strsV s'.rcp)) (hsd : SendAt W p'.sv s'.sender) (hbd : BodyAt W p'.bv p'.yv s'.body) (hsep : Sep p') (hF : ∀ k, Go.Proofs.YtapanjfheddfnaaGreatDoor.foot b p' k → F k) (blk : ∀ k, F k → 8 ≤ k ∧ k < W.heap.size)
    (i : Nat) (v : Value) (hc : C.setIfInBounds i v = cellsOf s' p') : SessAt (W.setCell ⟨b, i, none⟩ v) b s' p' F := by
  have hn : ∀ k, (k = p'.fb ∨ p'.rv.ownBlock = some k ∨ p'.kv.ownBlock = some k ∨ p'.tv.ownBlock = some k ∨ ptrBlock p'.sv = some k ∨ ptrBlock p'.bv = some k ∨ p'.yv.ownBlock = some k) → (W.setCell ⟨b, i, none⟩ v).heap[k]? = W.heap[k]? :=
    fun k q => Below.heap_setCell _ _ _ _ (parts_ne hs hf' hr' hk ht hsd hbd q)
  refine ⟨hF, fun k q => ⟨(blk k q).1, by simpa [World.setCell] using (blk k q).2⟩, ?_, (hn _ (.inl rfl)).trans hf', hr'.heap fun k q => hn k (.inr (.inl q)), hk.heap fun k q => hn k (.inr (.inr (.inl q))), ht.heap fun k q => hn k (.inr (.inr (.inr (.inl q)))),
    hsd.heap fun k q => hn k (.inr (.inr (.inr (.inr (.inl q))))), hbd.heap (fun k q => hn k (.inr (.inr (.inr (.inr (.inr (.inl q))))))) fun k q => hn k (.inr (.inr (.inr (.inr (.inr (.inr q)))))), hsep⟩
  rw [← hc]
  exact heap_set hs v
/-- One cell of the session is stored. -/
theorem SessAt.store (h : SessAt W b s p F) (i : Nat) (v : Value) (hc : (cellsOf s p).setIfInBounds i v = cellsOf s' p') (hfb : p'.fb = p.fb) (hrv : p'.rv = p.rv) (hrest : s'.rest = s.rest)
    (hk : RowAt W 9 p'.kv (strsV s'.kept)) (ht : RowAt W 9 p'.tv (strsV s'.rcp)) (hsd : SendAt W p'.sv s'.sender) (hbd : BodyAt W p'.bv p'.yv s'.body) (hsep : Sep p') (hF : ∀ k, Go.Proofs.YtapanjfheddfnaaGreatDoor.foot b p' k → F k) : SessAt (W.setCell ⟨b, i, none⟩ v) b s' p' F := by
  have hf' : W.heap[p'.fb]? = some (.cells #[.int .i64 1000, p'.rv] 82 (0, 0)) := by rw [hfb, hrv]; exact h.hf
  have hr' : RowAt W 5 p'.rv (bytesV s'.rest) := by rw [hrv, hrest]; exact h.rest
  exact SessAt.make h.hs hf' hr' hk ht hsd hbd hsep hF h.blk i v hc
/-- A flag. -/
theorem SessAt.flag (h : SessAt W b s p F) (i : Nat) (v : Value) (s' : Sess) (hc : (cellsOf s p).setIfInBounds i v = cellsOf s' p) (h1 : s'.rest = s.rest) (h2 : s'.kept = s.kept) (h3 : s'.rcp = s.rcp) (h4 : s'.sender = s.sender) (h5 : s'.body = s.body) :
    SessAt (W.setCell ⟨b, i, none⟩ v) b s' p F :=
  h.store i v hc rfl rfl h1 (by rw [h2]; exact h.kept) (by rw [h3]; exact h.rcp) (by rw [h4]; exact h.sender) (by rw [h5]; exact h.body) h.sep h.foot
theorem SessAt.noSender (h : SessAt W b s p F) : SessAt (W.setCell ⟨b, 4, none⟩ (.pointer none)) b { s with sender := none } { p with sv := .pointer none } F :=
  h.store 4 _ rfl rfl rfl rfl h.kept h.rcp rfl h.body ⟨h.sep.kt, fun _ _ e => (by cases e), fun _ _ e => (by cases e), h.sep.ry⟩ fun k q => h.foot k (by
    rcases q with q | q | q | q | q | q | q | q
    · exact .inl q
    · exact .inr (.inl q)
    · exact .inr (.inr (.inl q))
    · exact .inr (.inr (.inr (.inl q)))
    · exact .inr (.inr (.inr (.inr (.inl q))))
    · cases q
    · exact .inr (.inr (.inr (.inr (.inr (.inr (.inl q))))))
    · exact .inr (.inr (.inr (.inr (.inr (.inr (.inr q)))))))
theorem SessAt.noTo (h : SessAt W b s p F) : SessAt (W.setCell ⟨b, 5, none⟩ (.slice none 0 0)) b { s with rcp := [] } { p with tv := .slice none 0 0 } F :=
  h.store 5 _ rfl rfl rfl rfl h.kept (RowAt.nil _ _) h.sender h.body ⟨fun _ _ e => (by cases e), h.sep.ks, fun _ e => (by cases e), h.sep.ry⟩ fun k q => h.foot k (by
    rcases q with q | q | q | q | q | q | q | q
    · exact .inl q
    · exact .inr (.inl q)
    · exact .inr (.inr (.inl q))
    · exact .inr (.inr (.inr (.inl q)))
    · cases q
    · exact .inr (.inr (.inr (.inr (.inr (.inl q)))))
    · exact .inr (.inr (.inr (.inr (.inr (.inr (.inl q))))))
    · exact .inr (.inr (.inr (.inr (.inr (.inr (.inr q)))))))
theorem SessAt.noBody (h : SessAt W b s p F) : SessAt (W.setCell ⟨b, 6, none⟩ (.pointer none)) b { s with body := none } { p with bv := .pointer none, yv := .slice none 0 0 } F :=
  h.store 6 _ rfl rfl rfl rfl h.kept h.rcp h.sender ⟨rfl, rfl⟩ ⟨h.sep.kt, h.sep.ks, h.sep.ts, fun _ _ e => (by cases e)⟩ fun k q => h.foot k (by
    rcases q with q | q | q | q | q | q | q | q
    · exact .inl q
    · exact .inr (.inl q)
    · exact .inr (.inr (.inl q))
    · exact .inr (.inr (.inr (.inl q)))
    · exact .inr (.inr (.inr (.inr (.inl q))))
    · exact .inr (.inr (.inr (.inr (.inr (.inl q)))))
    · cases q
    · cases q)

/-- The session where none of its blocks is written. -/
theorem SessAt.frame {S : Nat → Prop} (h : SessAt W b s p F) (hk : Kept S W W') (hS : ∀ k, F k → ¬ S k) : SessAt W' b s p F := by
  have hn : ∀ k, Go.Proofs.YtapanjfheddfnaaGreatDoor.foot b p k → W'.heap[k]? = W.heap[k]? := fun k q => hk.block k (h.blk k (h.foot k q)).2 (hS k (h.foot k q))
  exact ⟨h.foot, fun k q => ⟨(h.blk k q).1, Nat.lt_of_lt_of_le (h.blk k q).2 hk.size⟩, (hn _ (.inl rfl)).trans h.hs, (hn _ (.inr (.inl rfl))).trans h.hf, h.rest.heap fun k q => hn k (.inr (.inr (.inl q))), h.kept.heap fun k q => hn k (.inr (.inr (.inr (.inl q)))),
    h.rcp.heap fun k q => hn k (.inr (.inr (.inr (.inr (.inl q))))), h.sender.heap fun k q => hn k (.inr (.inr (.inr (.inr (.inr (.inl q)))))), h.body.heap (fun k q => hn k (.inr (.inr (.inr (.inr (.inr (.inr (.inl q)))))))) fun k q => hn k (.inr (.inr (.inr (.inr (.inr (.inr (.inr q))))))), h.sep⟩
theorem SessAt.below (h : SessAt W b s p F) (hk : Below W.heap.size W W') : SessAt W' b s p F := h.frame (S := NoBlk) (Kept.of_below hk) fun _ _ h => h
theorem SessAt.wide (h : SessAt W b s p F) (hF : ∀ k, F k → F' k) (hl : ∀ k, F' k → 8 ≤ k ∧ k < W.heap.size) : SessAt W b s p F' :=
  ⟨fun k q => hF k (h.foot k q), hl, h.hs, h.hf, h.rest, h.kept, h.rcp, h.sender, h.body, h.sep⟩
theorem SessAt.cell (h : SessAt W b s p F) (i : Nat) : W.cell? ⟨b, i, none⟩ = (cellsOf s p)[i]? := by simp [World.cell?, h.hs]
theorem SessAt.frozen (h : SessAt W b s p F) (i : Nat) : W.frozen? ⟨b, i, none⟩ = false := by simp [World.frozen?, h.hs]
theorem SessAt.b8 (h : SessAt W b s p F) : F b := h.foot b (.inl rfl)

/-- The blocks that a call may give a session. -/
def Fresh (F : Nat → Prop) (w w' : World) : Nat → Prop := fun k => F k ∨ (w.heap.size ≤ k ∧ k < w'.heap.size)
theorem Fresh.blk (h : SessAt W b s p F) (hk : W.heap.size ≤ W'.heap.size) (h8 : 8 ≤ W.heap.size) : ∀ k, Fresh F W W' k → 8 ≤ k ∧ k < W'.heap.size := by
  intro k q
  rcases q with q | q
  · have := h.blk k q; omega
  · omega
/-- What is no row of strings keeps its place where the recipients' row, or the kept lines', is written. -/
theorem SessAt.others (h : SessAt W b s p F) {row : Option Nat} (hg : W.grownBy W' row) (hrow : ∀ k, row = some k → ∃ cur, W.heap[k]? = some (.cells cur 9 (0, 0))) (hsv : ∀ k, row = some k → ¬ ptrBlock p.sv = some k) :
    W'.heap[b]? = some (.cells (cellsOf s p) 62 (0, 0)) ∧ W'.heap[p.fb]? = some (.cells #[.int .i64 1000, p.rv] 82 (0, 0)) ∧ RowAt W' 5 p.rv (bytesV s.rest) ∧ SendAt W' p.sv s.sender ∧ BodyAt W' p.bv p.yv s.body := by
  have keep : ∀ (k : Nat) (o : Obj), W.heap[k]? = some o → (∀ cur, o ≠ Obj.cells cur 9 (0, 0)) → W'.heap[k]? = W.heap[k]? := by
    intro k o hk ho
    refine hg.block k (Array.getElem?_eq_some_iff.1 hk).1 (fun e => ?_)
    obtain ⟨cur, hc⟩ := hrow k e.symm
    rw [hk] at hc
    exact ho cur (Option.some.inj hc)
  refine ⟨(keep _ _ h.hs (by simp)).trans h.hs, (keep _ _ h.hf (by simp)).trans h.hf, h.rest.heap fun k q => ?_, h.sender.heap fun k q => ?_, h.body.heap (fun k q => ?_) fun k q => ?_⟩
  · obtain ⟨c, hc⟩ := h.rest.kind k q; exact keep _ _ hc (by simp)
  · exact hg.block k (h.blk k (h.foot k (.inr (.inr (.inr (.inr (.inr (.inl q)))))))).2 (fun e => hsv k e.symm q)
  · have hbd := h.body
    cases hx : s.body with
    | none => rw [hx] at hbd; rw [hbd.1] at q; cases q
    | some a =>
      rw [hx] at hbd
      obtain ⟨bb, e, _, ⟨pp, _, hc⟩, _⟩ := hbd
      rw [e] at q; cases q
      exact keep _ _ hc (by simp)
  · have hbd := h.body
    cases hx : s.body with
    | none => rw [hx] at hbd; rw [hbd.2] at q; cases q
    | some a =>
      rw [hx] at hbd
      obtain ⟨bb, e, _, _, hr⟩ := hbd
      obtain ⟨_, c, fz, hc⟩ := hr.kind k q
      exact keep _ _ hc (by simp)
/-- The recipients' row is written on. -/
theorem SessAt.setTo (h : SessAt W b s p F) (h8 : 8 ≤ W.heap.size) (hg : W.grownBy W' p.tv.ownBlock) (v' : Value) (l' : List Bs) (hr : RowAt W' 9 v' (strsV l')) (hv : ∀ k, v'.ownBlock = some k → p.tv.ownBlock = some k ∨ W.heap.size ≤ k) :
    SessAt (W'.setCell ⟨b, 5, none⟩ v') b { s with rcp := l' } { p with tv := v' } (Fresh F W W') := by
  obtain ⟨e1, e2, e3, e4, e5⟩ := h.others hg (fun k q => h.rcp.kind k q) h.sep.ts
  have lt : ∀ k, Go.Proofs.YtapanjfheddfnaaGreatDoor.foot b p k → k < W.heap.size := fun k q => (h.blk k (h.foot k q)).2
  have ek : RowAt W' 9 p.kv (strsV s.kept) := h.kept.heap fun k q => hg.block k (lt k (.inr (.inr (.inr (.inl q))))) (fun e => h.sep.kt k q e.symm)
  refine SessAt.make (s' := { s with rcp := l' }) (p' := { p with tv := v' }) e1 e2 e3 ek hr e4 e5 ⟨fun k q1 q2 => ?_, h.sep.ks, fun k q1 q2 => ?_, h.sep.ry⟩ (fun k q => ?_) (Fresh.blk h hg.size h8) 5 v' rfl
  · rcases hv k q2 with e | e
    · exact h.sep.kt k q1 e
    · have := lt k (.inr (.inr (.inr (.inl q1)))); omega
  · rcases hv k q1 with e | e
    · exact h.sep.ts k e q2
    · have := lt k (.inr (.inr (.inr (.inr (.inr (.inl q2)))))); omega
  · rcases q with q | q | q | q | q | q | q | q
    · exact .inl (h.foot k (.inl q))
    · exact .inl (h.foot k (.inr (.inl q)))
    · exact .inl (h.foot k (.inr (.inr (.inl q))))
    · exact .inl (h.foot k (.inr (.inr (.inr (.inl q)))))
    · rcases hv k q with e | e
      · exact .inl (h.foot k (.inr (.inr (.inr (.inr (.inl e))))))
      · exact .inr ⟨e, (hr.lt k q).2⟩
    · exact .inl (h.foot k (.inr (.inr (.inr (.inr (.inr (.inl q)))))))
    · exact .inl (h.foot k (.inr (.inr (.inr (.inr (.inr (.inr (.inl q))))))))
    · exact .inl (h.foot k (.inr (.inr (.inr (.inr (.inr (.inr (.inr q))))))))
/-- The row of the kept lines is written on, or cut. -/
theorem SessAt.setKept (h : SessAt W b s p F) (h8 : 8 ≤ W.heap.size) (hg : W.grownBy W' p.kv.ownBlock) (v' : Value) (l' : List Bs) (hr : RowAt W' 9 v' (strsV l')) (hv : ∀ k, v'.ownBlock = some k → p.kv.ownBlock = some k ∨ W.heap.size ≤ k) :
    SessAt (W'.setCell ⟨b, 2, none⟩ v') b { s with kept := l' } { p with kv := v' } (Fresh F W W') := by
  obtain ⟨e1, e2, e3, e4, e5⟩ := h.others hg (fun k q => h.kept.kind k q) h.sep.ks
  have lt : ∀ k, Go.Proofs.YtapanjfheddfnaaGreatDoor.foot b p k → k < W.heap.size := fun k q => (h.blk k (h.foot k q)).2
  have ek : RowAt W' 9 p.tv (strsV s.rcp) := h.rcp.heap fun k q => hg.block k (lt k (.inr (.inr (.inr (.inr (.inl q)))))) (fun e => h.sep.kt k e.symm q)
  refine SessAt.make (s' := { s with kept := l' }) (p' := { p with kv := v' }) e1 e2 e3 hr ek e4 e5 ⟨fun k q1 q2 => ?_, fun k q1 q2 => ?_, h.sep.ts, h.sep.ry⟩ (fun k q => ?_) (Fresh.blk h hg.size h8) 2 v' rfl
  · rcases hv k q1 with e | e
    · exact h.sep.kt k e q2
    · have := lt k (.inr (.inr (.inr (.inr (.inl q2))))); omega
  · rcases hv k q1 with e | e
    · exact h.sep.ks k e q2
    · have := lt k (.inr (.inr (.inr (.inr (.inr (.inl q2)))))); omega
  · rcases q with q | q | q | q | q | q | q | q
    · exact .inl (h.foot k (.inl q))
    · exact .inl (h.foot k (.inr (.inl q)))
    · exact .inl (h.foot k (.inr (.inr (.inl q))))
    · rcases hv k q with e | e
      · exact .inl (h.foot k (.inr (.inr (.inr (.inl e)))))
      · exact .inr ⟨e, (hr.lt k q).2⟩
    · exact .inl (h.foot k (.inr (.inr (.inr (.inr (.inl q))))))
    · exact .inl (h.foot k (.inr (.inr (.inr (.inr (.inr (.inl q)))))))
    · exact .inl (h.foot k (.inr (.inr (.inr (.inr (.inr (.inr (.inl q))))))))
    · exact .inl (h.foot k (.inr (.inr (.inr (.inr (.inr (.inr (.inr q))))))))
/-- The sender is a variable of the call's own. -/
theorem SessAt.setSender (h : SessAt W b s p F) (h8 : 8 ≤ W.heap.size) (sb : Nat) (hsb : F sb) (a : Bs) (hb : Boxed W sb 9 (S a)) (hn : ∀ k, Go.Proofs.YtapanjfheddfnaaGreatDoor.foot b p k → k ≠ sb) :
    SessAt (W.setCell ⟨b, 4, none⟩ (.pointer (some ⟨sb, 0, none⟩))) b { s with sender := some a } { p with sv := .pointer (some ⟨sb, 0, none⟩) } F := by
  refine SessAt.make (s' := { s with sender := some a }) (p' := { p with sv := .pointer (some ⟨sb, 0, none⟩) }) h.hs h.hf h.rest h.kept h.rcp ⟨sb, rfl, (h.blk sb hsb).1, hb⟩ h.body ⟨h.sep.kt, fun k q1 q2 => ?_, fun k q1 q2 => ?_, h.sep.ry⟩ (fun k q => ?_) h.blk 4 _ rfl
  · cases q2; exact hn sb (.inr (.inr (.inr (.inl q1)))) rfl
  · cases q2; exact hn sb (.inr (.inr (.inr (.inr (.inl q1))))) rfl
  · rcases q with q | q | q | q | q | q | q | q
    · exact h.foot k (.inl q)
    · exact h.foot k (.inr (.inl q))
    · exact h.foot k (.inr (.inr (.inl q)))
    · exact h.foot k (.inr (.inr (.inr (.inl q))))
    · exact h.foot k (.inr (.inr (.inr (.inr (.inl q)))))
    · cases q; exact hsb
    · exact h.foot k (.inr (.inr (.inr (.inr (.inr (.inr (.inl q)))))))
    · exact h.foot k (.inr (.inr (.inr (.inr (.inr (.inr (.inr q)))))))
/-- What a method does to a session. -/
def Step (b : Nat) (F : Nat → Prop) (w w' : World) (s' : Sess) : Prop := Kept F w w' ∧ ∃ p', SessAt w' b s' p' (Fresh F w w')

theorem Step.same (h : SessAt W' b s p F) (hk : Kept F W W') (h8 : 8 ≤ W.heap.size) : Step b F W W' s :=
  ⟨hk, p, h.wide (fun _ => .inl) (fun k q => by
    rcases q with q | q
    · exact h.blk k q
    · exact ⟨by omega, q.2⟩)⟩
theorem Step.trans {w w1 w2 : World} {s1 s2 : Sess} (h : Step b F w w1 s1) (k : Step b (Fresh F w w1) w1 w2 s2) : Step b F w w2 s2 := by
  obtain ⟨hk, _⟩ := h
  obtain ⟨kk, p2, hp⟩ := k
  have e1 := hk.size
  have e2 := kk.size
  refine ⟨hk.trans' kk (fun i q => ?_), p2, hp.wide (fun i q => ?_) (fun i q => ?_)⟩
  · exact q.imp id (fun q => q.1)
  · rcases q with (q | q) | q
    · exact .inl q
    · exact .inr ⟨q.1, by omega⟩
    · exact .inr ⟨by omega, q.2⟩
  · rcases q with q | q
    · exact hp.blk i (.inl (.inl q))
    · refine ⟨?_, q.2⟩
      have := (hp.blk b hp.b8).1
      by_cases hi : i < w1.heap.size
      · exact (hp.blk i (.inl (.inr ⟨q.1, hi⟩))).1
      · exact (hp.blk i (.inr ⟨by omega, q.2⟩)).1
/-- A world further on that has not touched the session. -/
theorem Step.below {w w1 w2 : World} {s1 : Sess} (h : Step b F w w1 s1) (k : Below w1.heap.size w1 w2) (h8 : 8 ≤ w1.heap.size) : Step b F w w2 s1 := by
  obtain ⟨_, p1, hp⟩ := id h
  exact h.trans (Step.same (hp.below k) (Kept.of_below k) h8)
end
end Go.Proofs.YtapanjfheddfnaaGreatDoor
