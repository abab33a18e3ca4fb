/- Slices that the session holds: a row of cells from some offset on, none frozen. What append, a cut at the head, a cut to nothing leave of it. No program here. -/
import Derived.Test.YtapanjfheddfnaaGreatDoorBase
import Derived.Deep.AppendSrc
import Derived.Lib.SlBytesRow
namespace Go.Proofs.YtapanjfheddfnaaGreatDoor
open Go.RowKit

/-- The slice value v holds the one-cell elements xs; its row begins at an offset; nothing of it is frozen; it lies at block 8 or later. -/
def RowAt (w : World) (e : TypeId) (v : Value) (xs : List Value) : Prop :=
  (v = .slice none 0 0 ∧ xs = []) ∨
  ∃ g off cap cur, v = .slice (some ⟨g, off, none⟩) xs.length cap ∧ 8 ≤ g ∧ w.heap[g]? = some (.cells cur e (0, 0)) ∧ off + cap ≤ cur.size ∧ xs.length ≤ cap ∧ cap ≤ maxLen ∧ (cur.toList.drop off).take xs.length = xs

def bytesV (l : Bs) : List Value := l.map fun b => Value.int .u8 b.toNat
def strsV (l : List Bs) : List Value := l.map S
theorem own_len (a : Option Addr) (n m c d : Nat) : (Value.slice a n c).ownBlock = (Value.slice a m d).ownBlock := by cases a <;> rfl
theorem RowAt.nil (w : World) (e : TypeId) : RowAt w e (.slice none 0 0) [] := .inl ⟨rfl, rfl⟩
theorem RowAt.slice {w : World} {e : TypeId} {v : Value} {xs : List Value} (h : RowAt w e v xs) : ∃ a c, v = .slice a xs.length c := by
  rcases h with ⟨rfl, rfl⟩ | ⟨g, off, cap, cur, rfl, _⟩
  · exact ⟨none, 0, rfl⟩
  · exact ⟨_, cap, rfl⟩
theorem RowAt.lt {w : World} {e : TypeId} {v : Value} {xs : List Value} (h : RowAt w e v xs) : ∀ k, v.ownBlock = some k → 8 ≤ k ∧ k < w.heap.size := by
  intro k hk
  rcases h with ⟨rfl, rfl⟩ | ⟨g, off, cap, cur, rfl, h8, hg, _⟩
  · simp [Value.ownBlock] at hk
  · simp [Value.ownBlock] at hk
    subst hk
    exact ⟨h8, (Array.getElem?_eq_some_iff.1 hg).1⟩
/-- The row's block is cells of that type. -/
theorem RowAt.kind {w : World} {e : TypeId} {v : Value} {xs : List Value} (h : RowAt w e v xs) : ∀ k, v.ownBlock = some k → ∃ cur, w.heap[k]? = some (.cells cur e (0, 0)) := by
  intro k hk
  rcases h with ⟨rfl, rfl⟩ | ⟨g, off, cap, cur, rfl, h8, hg, _⟩
  · simp [Value.ownBlock] at hk
  · simp [Value.ownBlock] at hk
    subst hk
    exact ⟨cur, hg⟩
theorem RowAt.heap {w w' : World} {e : TypeId} {v : Value} {xs : List Value} (h : RowAt w e v xs) (hk : ∀ k, v.ownBlock = some k → w'.heap[k]? = w.heap[k]?) : RowAt w' e v xs := by
  rcases h with ⟨rfl, rfl⟩ | ⟨g, off, cap, cur, rfl, h8, hg, rest⟩
  · exact .inl ⟨rfl, rfl⟩
  · exact .inr ⟨g, off, cap, cur, rfl, h8, (hk g rfl).trans hg, rest⟩
theorem RowAt.kept {S : Nat → Prop} {w w' : World} {e : TypeId} {v : Value} {xs : List Value} (h : RowAt w e v xs) (hk : Kept S w w') (hn : ∀ k, v.ownBlock = some k → ¬ S k) : RowAt w' e v xs :=
  h.heap fun k hv => hk.block k (h.lt k hv).2 (hn k hv)
theorem RowAt.cells {w : World} {e : TypeId} {v : Value} {xs : List Value} (h : RowAt w e v xs) (hne : xs ≠ []) :
    ∃ g off cap, v = .slice (some ⟨g, off, none⟩) xs.length cap ∧ ∀ j u, xs[j]? = some u → w.cell? ⟨g, off + j, none⟩ = some u := by
  rcases h with ⟨rfl, rfl⟩ | ⟨g, off, cap, cur, rfl, h8, hg, h1, h2, h3, h4⟩
  · exact absurd rfl hne
  · refine ⟨g, off, cap, rfl, fun j u hj => ?_⟩
    rw [← h4] at hj
    simp only [World.cell?, hg]
    have hlt : j < xs.length := by
      rcases Nat.lt_or_ge j xs.length with q | q
      · exact q
      · rw [List.getElem?_take, if_neg (by omega)] at hj; cases hj
    rw [List.getElem?_take_of_lt (by simpa using hlt), List.getElem?_drop] at hj
    simpa using hj
/-- 'v = v[1:]' -/
theorem RowAt.tail {w : World} {e : TypeId} {x : Value} {xs : List Value} {g off cap : Nat} (h : RowAt w e (.slice (some ⟨g, off, none⟩) (xs.length + 1) cap) (x :: xs)) :
    RowAt w e (.slice (some ⟨g, off + 1, none⟩) xs.length (cap - 1)) xs ∧ (cap = 1 → RowAt w e (.slice (some ⟨g, off, none⟩) xs.length (cap - 1)) xs) := by
  rcases h with ⟨h, _⟩ | ⟨g', off', cap', cur, h, h8, hg, h1, h2, h3, h4⟩
  · cases h
  · simp only [List.length_cons, Value.slice.injEq, Option.some.injEq, Addr.mk.injEq, and_true] at h
    obtain ⟨⟨rfl, rfl⟩, -, rfl⟩ := h
    simp only [List.length_cons] at h2 h4
    have ht : (cur.toList.drop (off + 1)).take xs.length = xs := by
      have hd : cur.toList.drop off ≠ [] := by intro e0; rw [e0] at h4; simp at h4
      obtain ⟨y, ys, hy⟩ := List.exists_cons_of_ne_nil hd
      rw [hy, List.take_succ_cons] at h4
      have : cur.toList.drop (off + 1) = ys := by rw [← List.drop_drop, hy]; rfl
      rw [this]
      exact (List.cons.inj h4).2
    refine ⟨.inr ⟨g, off + 1, cap - 1, cur, rfl, h8, hg, by omega, by omega, by omega, ht⟩, fun hc => ?_⟩
    have hx : xs = [] := List.eq_nil_of_length_eq_zero (by omega)
    subst hx
    exact .inr ⟨g, off, cap - 1, cur, rfl, h8, hg, by omega, by simp, by omega, by simp⟩
/-- 'v = v[:0]' -/
theorem RowAt.zero {w : World} {e : TypeId} {a : Option Addr} {n cap : Nat} {xs : List Value} (h : RowAt w e (.slice a n cap) xs) : RowAt w e (.slice a 0 cap) [] := by
  rcases h with ⟨h, _⟩ | ⟨g, off, cap', cur, h, h8, hg, h1, h2, h3, h4⟩
  · cases h; exact .inl ⟨rfl, rfl⟩
  · cases h; exact .inr ⟨g, off, cap, cur, rfl, h8, hg, h1, by simp, h3, by simp⟩
/-- A row that the shelf's words speak of. -/
theorem RowAt.of_owns {w : World} {base : Nat} {e : TypeId} {v : Value} {n : Nat} {xs : List Value} (h : w.ownsRow base e 1 v n xs) (hb : 8 ≤ base) : RowAt w e v xs := by
  have hl : xs.length = n := by simpa using h.1
  subst hl
  rcases h.2 with ⟨hv, hn⟩ | ⟨g, cap, cur, hv, hbg, hg, h1, h2, h3, h4⟩
  · exact .inl ⟨by rw [hv], List.eq_nil_of_length_eq_zero hn⟩
  · exact .inr ⟨g, 0, cap, cur, hv, by omega, hg, by omega, h1, h2, by simpa using h4⟩

section
variable {P : Program}
theorem run_append_room_row (w : World) (t tx ty e : TypeId) (i : TypeInfo) (ht : P.underlying t = some (.slice e)) (hi : P.info? e = some i) (hs1 : i.size = 1) (g off n cap : Nat) (cur : Array Value) (hg : w.heap[g]? = some (.cells cur e (0, 0)))
    (x : Value) (m : Nat) (news : List Value) (hs : Src P 1 tx x m news w) (hroom : n + m ≤ cap) (hfit : off + n + news.length ≤ cur.size) :
    (Builtin.append_ #[t, tx] ty #[.slice (some ⟨g, off, none⟩) n cap, x]).run P w =
      .ok (.slice (some ⟨g, off, none⟩) (n + m) cap) (w.setRow g (cur.toList.take (off + n) ++ news ++ cur.toList.drop (off + n + news.length)).toArray) := by
  have hst := run_storeCells_at P g (off + n) e news 0 cur w hg (by simpa using hfit) hs.one
  simp only [Nat.add_zero] at hst
  rcases hs.kind with ⟨e', hk⟩ | hk <;> simp [Builtin.append_, run_underlying ht, run_underlying hk, sizeOf, typeInfo, hi, hs1, hs.len, hroom, hs.cells, Addr.add_lit, hst]

/-- append onto such a row, of whatever is appended. -/
theorem RowAt.append {w : World} {e : TypeId} {v : Value} {xs : List Value} (h : RowAt w e v xs) (h8 : 8 ≤ w.heap.size) (t tx ty : TypeId) (i : TypeInfo) (z : Value) (bytes : Nat) (ht : P.underlying t = some (.slice e)) (hi : P.info? e = some i)
    (hz : i.zero = some z) (hs1 : i.size = 1) (hby : i.bytes = bytes) (hzs : z.cells.size = 1) (x : Value) (m : Nat) (news : List Value) (hs : Src P 1 tx x m news w) (h63 : xs.length + m ≤ maxLen) (hbytes : (xs.length + m) * bytes ≤ 140737488355328) :
    ∃ v' w', (Builtin.append_ #[t, tx] ty #[v, x]).run P w = .ok v' w' ∧ RowAt w' e v' (xs ++ news) ∧ w.grownBy w' v.ownBlock ∧ (∀ k, v'.ownBlock = some k → v.ownBlock = some k ∨ w.heap.size ≤ k) := by
  have hml : news.length = m := by simpa using hs.newsLen
  have grow : ∀ (base : Option Addr) (cap : Nat), v = .slice base xs.length cap → ((Builtin.firstCells i.size xs.length (.slice base xs.length cap)).run P w.drew = .ok xs.toArray w.drew) → cap < xs.length + m →
      ∃ v' w', (Builtin.append_ #[t, tx] ty #[v, x]).run P w = .ok v' w' ∧ RowAt w' e v' (xs ++ news) ∧ w.grownBy w' v.ownBlock ∧ (∀ k, v'.ownBlock = some k → v.ownBlock = some k ∨ w.heap.size ≤ k) := by
    intro base cap hv hold hg
    have hsmall : xs.length + m ≤ 9223372036854775807 := by simp only [maxLen] at h63; omega
    have hr := run_append_grow_src (P := P) w t tx ty e i z ht hi hz base xs.length cap xs hold x m news (hs1 ▸ hs) hg (by omega) (growslice_fits hg (by rw [hby]; exact hbytes))
    have hge := grownCap_ge w (xs.length + m) cap e
    have hcm := grownCap_le_maxLen w (xs.length + m) cap e h63
    rw [hv]
    refine ⟨_, _, hr, .inr ⟨w.heap.size, 0, _, _, by rw [List.length_append, hml], h8, heap_alloc_new w.drew _, ?_, ?_, hcm, ?_⟩, ⟨rfl, rfl, rfl, by simp, fun k hk _ => Below.heap_alloc w.drew _ k hk⟩, fun k hk => ?_⟩
    · simp only [Array.size_append, List.size_toArray, size_zeroCells, hzs, List.length_append, hml]; omega
    · rw [List.length_append, hml]; exact hge
    · simp only [Array.toList_append, List.drop_zero]
      exact List.take_left
    · simp [Value.ownBlock] at hk; subst hk; exact .inr (Nat.le_refl _)
  rcases h with ⟨rfl, rfl⟩ | ⟨g, off, cap, cur, rfl, hg8, hg, h1, h2, h3, h4⟩
  · by_cases hm : m = 0
    · subst hm
      have hnil : news = [] := List.eq_nil_of_length_eq_zero hml
      subst hnil
      refine ⟨.slice none 0 0, w, ?_, .inl ⟨rfl, rfl⟩, ⟨rfl, rfl, rfl, Nat.le_refl _, fun _ _ _ => rfl⟩, fun k hk => .inl hk⟩
      rcases hs.kind with ⟨e', hk⟩ | hk <;> simp [Builtin.append_, run_underlying ht, run_underlying hk, sizeOf, typeInfo, hi, hs1, hs.len, hs.cells]
    · exact grow none 0 rfl (by rw [hs1]; exact run_firstCells_none w.drew 1 0 0 0) (by simp; omega)
  · by_cases hroom : xs.length + m ≤ cap
    · have hr := run_append_room_row (P := P) w t tx ty e i ht hi hs1 g off xs.length cap cur hg x m news hs hroom (by omega)
      refine ⟨_, _, hr, .inr ⟨g, off, cap, _, by rw [List.length_append, hml], hg8, setRow_heap w g cur _ e _ hg, ?_, by rw [List.length_append, hml]; exact hroom, h3, ?_⟩, ⟨rfl, rfl, rfl, by simp, fun k hk hk2 => setRow_other w g k _ (fun e => hk2 (by simp [Value.ownBlock, e]))⟩, fun k hk => .inl hk⟩
      · simp only [List.size_toArray, List.length_append, List.length_take, List.length_drop, Array.length_toList]
        omega
      · have htk : cur.toList.take (off + xs.length) = cur.toList.take off ++ xs := by
          rw [List.take_add, h4]
        have hlen : (cur.toList.take off).length = off := by simp; omega
        rw [htk, List.append_assoc, List.append_assoc]
        rw [List.drop_left' hlen, ← List.append_assoc]
        exact List.take_left
    · refine grow (some ⟨g, off, none⟩) cap rfl ?_ (by omega)
      rw [hs1]
      refine run_firstCells_some w.drew 1 xs.length ⟨g, off, none⟩ xs.length cap xs (by simp) (fun j u hj => ?_)
      rw [Addr.add_lit]
      obtain ⟨g', off', cap', hv', hc⟩ := RowAt.cells (w := w) (e := e) (v := .slice (some ⟨g, off, none⟩) xs.length cap) (xs := xs) (.inr ⟨g, off, cap, cur, rfl, hg8, hg, h1, h2, h3, h4⟩) (by intro e0; rw [e0] at hj; simp at hj)
      cases hv'
      exact hc j u hj
theorem heap_set {w : World} {b i : Nat} {cs : Array Value} {t : TypeId} {fr : Nat × Nat} (h : w.heap[b]? = some (.cells cs t fr)) (u : Value) : (w.setCell ⟨b, i, none⟩ u).heap[b]? = some (.cells (cs.setIfInBounds i u) t fr) := by
  have hlt : b < w.heap.size := (Array.getElem?_eq_some_iff.1 h).1
  simp only [World.setCell, Array.getElem?_modify, h]
  simp
theorem src_S {tx : TypeId} (w : World) (hk : P.underlying tx = some .string) (l : Bs) : Src P 1 tx (S l) l.length (bytesV l) w := by
  have h := Src.ofString w hk (⟨l.toArray⟩ : ByteArray)
  exact h
/-- 'string(v)' -/
theorem RowAt.text {w : World} {e : TypeId} {a : Option Addr} {n c : Nat} {l : Bs} (h : RowAt w e (.slice a n c) (bytesV l)) (src dst : TypeId) (hs : P.underlying src = some (.slice e)) (he : P.underlying e = some (.int .u8)) (hd : P.underlying dst = some .string) :
    (convert src dst (.slice a n c)).run P w = .ok (S l) w := by
  have hn : n = l.length := by
    obtain ⟨a', c', h'⟩ := h.slice
    cases h'
    simp [bytesV]
  subst hn
  by_cases hl : l = []
  · subst hl
    rcases h with ⟨h, _⟩ | ⟨g, off, cap, cur, h, _⟩
    · cases h
      exact run_convert_bytes_nil w src e hs he 0 0 dst hd
    · cases h
      exact Go.Lib.run_convert_whole w src e dst hs he hd g off ⟨#[]⟩ (fun i hi => absurd hi (Nat.not_lt_zero i)) c
  · obtain ⟨g, off, cap, h1, h2⟩ := h.cells (by simpa [bytesV] using hl)
    have hlen : (bytesV l).length = l.length := by simp [bytesV]
    rw [hlen] at h1
    cases h1
    refine Go.Lib.run_convert_whole w src e dst hs he hd g off ⟨l.toArray⟩ (fun i hi => h2 i _ ?_) c
    have hi' : i < l.length := hi
    have : (⟨l.toArray⟩ : ByteArray)[i] = l[i] := rfl
    rw [this]
    simp [bytesV, List.getElem?_eq_getElem hi']
/-- An operation that appends, the run known. -/
theorem exec_append (w : World) {o : Oper} {a : Act} (s x : Operand) (t tn : TypeId)
    (ho : o.op = .call { callee := .builtin .append, args := #[s, x], argTypes := #[t, tn] }) (vs vx : Value) (hs : a.eval s = vs) (hx : a.eval x = vx)
    (v' : Value) (w' : World) (hr : (Builtin.append_ #[t, tn] o.type #[vs, vx]).run P w = .ok v' w') : (execOp a.eval o).run P w = .ok (.value v') w' := by
  unfold execOp
  simp only [ho, resolve, invoke, builtin, Sem.run_bind, Sem.run_pure, Result.andThen_ok, List.map_toArray, List.map_cons, List.map_nil, hs, hx, hr]
/-- An operation that converts, the run known. -/
theorem exec_convert (w : World) {o : Oper} {a : Act} (src dst : TypeId) (x : Operand) (ho : o.op = .convert src dst x) (vx : Value) (hx : a.eval x = vx) (v' : Value) (w' : World) (hr : (convert src dst vx).run P w = .ok v' w') :
    (execOp a.eval o).run P w = .ok (.value v') w' := by
  unfold execOp
  simp only [ho, Sem.run_bind, Sem.run_pure, Result.andThen_ok, hx, hr]
end
end Go.Proofs.YtapanjfheddfnaaGreatDoor
