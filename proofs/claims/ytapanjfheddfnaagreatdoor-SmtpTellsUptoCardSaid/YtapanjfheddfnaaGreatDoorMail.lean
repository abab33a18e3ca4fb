/- MAIL. -/
import Derived.Test.YtapanjfheddfnaaGreatDoorCmds2
import Derived.Test.YtapanjfheddfnaaGreatDoorParse
import Derived.Lib.RuneBytes
namespace Go.Proofs.YtapanjfheddfnaaGreatDoor
open Go.RowKit Go.Shelf
attribute [local go_sem high] ext_to ext_from
attribute [local go_sem] ext_list app_list size_list

def sizeB : Bs := [83, 73, 90, 69]
/-- One option: its kind and, where it may stand, what it says of the size. -/
def optOk (p : Bs) : Bool := (Lib.cut p [61]).1 == sizeB && (parseL (Lib.cut p [61]).2.1 0 9223372036854775807).2 || p == [66, 79, 68, 89, 61, 55, 66, 73, 84] || p == [66, 79, 68, 89, 61, 56, 66, 73, 84, 77, 73, 77, 69]
/-- The options: the size that they give; none where one of them may not stand. -/
def optF : Nat → Bs → Int → List Bs → Option Int
  | 0, _, z, _ => some z
  | n + 1, r, z, given =>
    if r = [] then some z else
    if given.contains (Lib.cut (greatL (wordL r).1) [61]).1 || !optOk (greatL (wordL r).1) then none else
    optF n (wordL r).2 (if (Lib.cut (greatL (wordL r).1) [61]).1 = sizeB then (parseL (Lib.cut (greatL (wordL r).1) [61]).2.1 0 9223372036854775807).1 else z) (given ++ [(Lib.cut (greatL (wordL r).1) [61]).1])
def optL (r : Bs) : Option Int := optF r.length r 0 []
def mailP (s : Sess) : Option (Bs × Bs) → Bs × Sess
  | none => (replyL 501, s)
  | some (a, r) =>
    if (a ≠ [] ∧ mayL a = false) ∨ (r ≠ [] ∧ Lib.containsAny (r.take 1) blanks = false) then (replyL 501, s) else
    match optL r with
    | none => (replyL 501, s)
    | some z => if (s.most : Int) < z then (replyL 552, s) else (replyL 250, { s with sender := some a })
def mailS (s : Sess) (rest : Bs) : Bs × Sess := if s.greeted = false ∨ s.sender ≠ none then (replyL 503, s) else mailP s (pathL rest [70, 82, 79, 77, 58])

set_option maxRecDepth 100000 in
theorem containsAny_calls (l : Bs) (hs : l.length < 4294967281) (w : World) : Calls Tryz.prog 95 #[S l, .string ⟨#[32, 9]⟩] w fun e w' => e = .returned (.bool (Lib.containsAny l blanks)) ∧ Below w.heap.size w w' := by
  have hc : Lib.containsAny l blanks = decide (0 ≤ Lib.indexAny l blanks) := rfl
  rw [hc]
  obtain ⟨k, hk⟩ : ∃ k, Lib.indexAny l blanks = k := ⟨_, rfl⟩
  have HK := Lib.hid hk
  rw [hk]
  clear hk hc
  go_enter Tryz.func95, Tryz.ntmps95
  go_wp2_with fail
  refine (indexAny_calls l hs _).mono ?_
  rw [HK.out]
  rintro e w1 ⟨rfl, hb1⟩
  go_wp2
  go_ret
  exact ⟨rfl, hb1⟩

set_option maxRecDepth 100000 in
theorem mail_503 (w : World) (b : Nat) (s : Sess) (p : SP) (F : Nat → Prop) (h : SessAt w b s p F) (G : Glob w) (rest : Bs) (hc : s.greeted = false ∨ s.sender ≠ none) :
    Calls Tryz.prog 62 #[.pointer (some ⟨b, 0, none⟩), S rest] w fun e w' => e = .returned (S (replyL 503)) ∧ Step b F w w' s := by
  have H := Lib.hid h
  have c3 : w.cell? ⟨b, 3, none⟩ = some (.bool s.greeted) := h.cell 3
  have c4 : w.cell? ⟨b, 4, none⟩ = some p.sv := h.cell 4
  cases hg : s.greeted
  · rw [hg] at c3
    go_enter Tryz.func62, Tryz.ntmps62
    go_wp2_with fail
    refine (reply_503 _ G).mono ?_
    rintro e w1 ⟨rfl, hb1⟩
    go_wp2
    go_ret
    exact ⟨rfl, Step.same (H.out.below hb1) (Kept.of_below hb1) G.sz⟩
  · rw [hg] at c3
    have hsn : s.sender ≠ none := hc.resolve_left (by rw [hg]; simp)
    obtain ⟨sb, hsv⟩ : ∃ sb, p.sv = .pointer (some ⟨sb, 0, none⟩) := by
      have := h.sender
      cases hx : s.sender with
      | none => exact absurd hx hsn
      | some a => rw [hx] at this; exact ⟨this.choose, this.choose_spec.1⟩
    rw [hsv] at c4
    clear hsn hc
    go_enter Tryz.func62, Tryz.ntmps62
    go_wp2_with fail
    refine (reply_503 _ G).mono ?_
    rintro e w1 ⟨rfl, hb1⟩
    go_wp2
    go_ret
    exact ⟨rfl, Step.same (H.out.below hb1) (Kept.of_below hb1) G.sz⟩
/-! ### The options that were given -/
def entsF : Nat → List Bs → List MapEntry
  | _, [] => []
  | i, k :: l => { key := S k, val := .bool true, born := i } :: entsF (i + 1) l
def entsOf (l : List Bs) : Array MapEntry := (entsF 0 l).toArray
theorem entsF_append (l : List Bs) (k : Bs) : ∀ i, entsF i (l ++ [k]) = entsF i l ++ [{ key := S k, val := .bool true, born := i + l.length }] := by
  induction l with
  | nil => intro i; rfl
  | cons x l ih =>
    intro i
    simp only [List.cons_append, entsF, ih (i + 1), List.length_cons]
    rw [show i + 1 + l.length = i + (l.length + 1) by omega]
theorem entsOf_push (l : List Bs) (k : Bs) : (entsOf l).push { key := S k, val := .bool true, born := l.length } = entsOf (l ++ [k]) := by
  unfold entsOf
  rw [entsF_append]
  simp
theorem sameNow_S (a b : Bs) : Instr.sameNow .string (S a) (S b) = some (decide (a = b)) := by
  show some ((⟨a.toArray⟩ : ByteArray) == ⟨b.toArray⟩) = _
  congr 1
  rw [Bool.eq_iff_iff, MapKept.bytes_beq]
  simp
theorem find_ents (k : Bs) : ∀ (l : List Bs) (i j : Nat), (l.contains k = false → Instr.findNow .string (S k) (entsF j l) i = some none) ∧ (l.contains k = true → ∃ n, Instr.findNow .string (S k) (entsF j l) i = some (some (n, .bool true)))
  | [], i, j => ⟨fun _ => rfl, fun h => by simp at h⟩
  | x :: l, i, j => by
    have ih := find_ents k l (i + 1) (j + 1)
    by_cases hx : k = x
    · subst hx
      refine ⟨fun h => by simp at h, fun _ => ⟨i, ?_⟩⟩
      simp [entsF, Instr.findNow, sameNow_S]
    · have hx' : ¬ x = k := fun e => hx e.symm
      refine ⟨fun h => ?_, fun h => ?_⟩
      · have h' : l.contains k = false := by simpa [hx, hx'] using h
        simp [entsF, Instr.findNow, sameNow_S, hx, ih.1 h']
      · have h' : l.contains k = true := by simpa [hx, hx'] using h
        obtain ⟨n, hn⟩ := ih.2 h'
        exact ⟨n, by simp [entsF, Instr.findNow, sameNow_S, hx, hn]⟩
theorem lookup_given {w : World} {M : Nat} {l : List Bs} {c : Nat} (hb : w.heap[M]? = some (.map (entsOf l) c)) (k : Bs) : (Instr.lookup 106 (.map (some M)) (S k) false).run Tryz.prog w = .ok (.bool (l.contains k)) w := by
  cases h : l.contains k
  · exact run_lookup_known_not (P := Tryz.prog) (t := 106) Tryz.underlying106 Tryz.underlying9 (Or.inr rfl) hb (S k) ((find_ents k l 0 0).1 h) (z := .bool false) (by kernel_rfl)
  · obtain ⟨n, hn⟩ := (find_ents k l 0 0).2 h
    exact run_lookup_known (P := Tryz.prog) (t := 106) Tryz.underlying106 Tryz.underlying9 (Or.inr rfl) hb (S k) hn
/-- Between two options. -/
def OptR (M : Nat) (wC : World) (r : Bs) (g : Nat) (v1 v7 : Value) (wx : World) : Prop :=
  ∃ (r' : Bs) (z : Int) (given : List Bs), v1 = S r' ∧ v7 = .int .i64 z ∧ optF g r' z given = optL r ∧ r'.length ≤ g ∧ r'.length ≤ r.length ∧ r'.length ≤ 1000000 ∧ Below wC.heap.size wC wx ∧ M = wC.heap.size ∧ wx.heap[M]? = some (.map (entsOf given) given.length) ∧ (∃ _ : Unit, 0 ≤ z ∧ z ≤ 9223372036854775807)

theorem encodeRune_le (r : Int) : (Lib.encodeRune r).length ≤ 4 := by
  unfold Lib.encodeRune
  rw [List.length_map]
  exact (Lib.encodeRuneZ_length r).2
theorem mapGoD_le (f : Int → Int) : ∀ (n : Nat) (l : Bs), (Lib.mapGoD f n l).length ≤ 4 * n
  | 0, _ => by simp [Lib.mapGoD]
  | n + 1, l => by
    unfold Lib.mapGoD
    split
    · simp
    · have ih := mapGoD_le f n (l.drop (Lib.decodeL l).2)
      rw [List.length_append]
      split
      · have := encodeRune_le (f (Lib.decodeL l).1); omega
      · simp; omega
theorem greatL_le (l : Bs) : (greatL l).length ≤ 4 * l.length := mapGoD_le grR l.length l
theorem parseL_rng (v : Bs) : 0 ≤ (parseL v 0 9223372036854775807).1 ∧ (parseL v 0 9223372036854775807).1 ≤ 9223372036854775807 := by
  unfold parseL
  split
  · split
    · simp
    · split
      · split
        · simp
        · rename_i h; simp only; omega
      · simp
  · simp
theorem word_le (l : Bs) : (wordL l).1.length ≤ l.length ∧ (wordL l).2.length ≤ l.length := by
  have e1 := trimS_le l blanks
  unfold wordL
  split
  · have e2 := trimS_le ((Lib.trimS l blanks).drop (Lib.indexAny (Lib.trimS l blanks) blanks).toNat) blanks
    simp only [List.length_take, List.length_drop] at e2 ⊢
    omega
  · exact ⟨e1, Nat.zero_le _⟩
def okB (pg k : Bs) (ok : Bool) : Bool := k == sizeB && ok || pg == [66, 79, 68, 89, 61, 55, 66, 73, 84] || pg == [66, 79, 68, 89, 61, 56, 66, 73, 84, 77, 73, 77, 69]
theorem opt_step {E : Bs × Sess} {s : Sess} {a r r' f1 r2 pg k v : Bs} {fd ok : Bool} {n z : Int} {g : Nat} {given : List Bs} (hE : mailP s (some (a, r)) = E) (hcond : ¬ ((a ≠ [] ∧ mayL a = false) ∨ (r ≠ [] ∧ Lib.containsAny (r.take 1) blanks = false)))
    (hrun : optF (g + 1) r' z given = optL r) (hre : ¬ r' = []) (hwd : wordL r' = (f1, r2)) (hpg : greatL f1 = pg) (hct : Lib.cut pg [61] = (k, v, fd)) (hpa : parseL v 0 9223372036854775807 = (n, ok)) :
    ((given.contains k || !okB pg k ok) = true → Hid (E = (replyL 501, s))) ∧ ((given.contains k || !okB pg k ok) = false → ∀ z', (if k = sizeB then n else z) = z' → Hid (optF g r2 z' (given ++ [k]) = optL r)) := by
  have ho : optOk pg = okB pg k ok := by unfold optOk okB; rw [hct]; simp only [hpa]
  unfold optF at hrun
  rw [if_neg hre, hwd] at hrun
  simp only [hpg, hct, hpa, ho] at hrun
  refine ⟨fun q => ?_, fun q z' hz => ?_⟩
  · rw [if_pos q] at hrun
    unfold Hid
    rw [← hE]
    simp only [mailP, if_neg hcond, ← hrun]
  · rw [if_neg (by rw [q]; simp), hz] at hrun
    exact hrun
theorem opt_short {r' f1 r2 pg k v : Bs} {fd ok : Bool} {n : Int} (hre : ¬ r' = []) (hwd : wordL r' = (f1, r2)) (hpg : greatL f1 = pg) (hct : Lib.cut pg [61] = (k, v, fd)) (hok : okB pg k ok = true) : r2.length < r'.length := by
  have hne : f1 ≠ [] := by
    rintro rfl
    have e1 : pg = [] := by rw [← hpg]; rfl
    subst e1
    have e2 : k = [] := by
      have : Lib.cut [] [61] = ([], [], false) := by decide
      rw [this] at hct
      exact (Prod.mk.inj hct).1.symm
    subst e2
    revert hok
    cases ok <;> decide
  have hl := List.length_pos_iff.2 hre
  have e1 := trimS_le r' blanks
  unfold wordL at hwd
  split at hwd
  · obtain ⟨rfl, rfl⟩ := Prod.mk.inj hwd
    have e2 := trimS_le ((Lib.trimS r' blanks).drop (Lib.indexAny (Lib.trimS r' blanks) blanks).toNat) blanks
    have e3 := List.length_pos_iff.2 hne
    simp only [List.length_take, List.length_drop] at e2 e3
    omega
  · obtain ⟨rfl, rfl⟩ := Prod.mk.inj hwd
    simpa using hl
/-- What an insertion leaves. -/
def Ins (M : Nat) (es : Array MapEntry) (clock : Nat) (W W' : World) : Prop := W'.heap[M]? = some (.map es clock) ∧ Kept (fun k => k = M) W W'
/-- 'm[k] = v', wherever the map lies, the key not yet there. -/
theorem run_insert_at {P : Program} {w : World} (t k e : TypeId) (ht : P.underlying t = some (.map k e)) (hk : P.underlying k = some .string) (M : Nat) (es : Array MapEntry) (clock : Nat) (hb : w.heap[M]? = some (.map es clock)) (key val : Value) (hf : Instr.findNow .string key es.toList 0 = some none) :
    ∃ w', (Instr.mapUpdate t (.map (some M)) key val).run P w = .ok () w' ∧ Ins M (es.push { key := key, val := val, born := clock }) (clock + 1) w w' := by
  have hlt : M < w.heap.size := (Array.getElem?_eq_some_iff.1 hb).1
  refine ⟨{ w with heap := w.heap.setIfInBounds M (.map (es.push { key := key, val := val, born := clock }) (clock + 1)) }, ?_, ⟨by simp [hlt], rfl, rfl, rfl, by simp, fun j hj hn => by simp [Ne.symm hn]⟩⟩
  have hfk : (Instr.findKey k key es.toList).run P w = .ok none w := by simp [Instr.findKey, run_underlying hk, hf]
  have hck : (Instr.checkKey false 10000 k key).run P w = .ok () w := checkKey_plain hk (.inr rfl) key false 9999 _
  simp [Instr.mapUpdate, run_underlying ht, MapKept.run_getObj_map hb, hck, hfk, MapKept.run_setObj_map _ hb, Result.andThen]
theorem optR_next {wC w5 w6 : World} {M g : Nat} {r r2 k : Bs} {z' : Int} {given : List Bs} (hb : Below wC.heap.size wC w5) (hi : Ins M ((entsOf given).push { key := S k, val := .bool true, born := given.length }) (given.length + 1) w5 w6) (hMC : wC.heap.size = M)
    (hr : optF g r2 z' (given ++ [k]) = optL r) (h1 : r2.length ≤ g) (h1' : r2.length ≤ r.length) (h2 : r2.length ≤ 1000000) (h3 : 0 ≤ z' ∧ z' ≤ 9223372036854775807) : OptR wC.heap.size wC r g (S r2) (.int .i64 z') w6 := by
  obtain ⟨hm, hk⟩ := hi
  rw [entsOf_push] at hm
  have z := hb.size
  refine ⟨r2, z', given ++ [k], rfl, rfl, hr, h1, h1', h2, ⟨hk.os.trans hb.os, hk.tape.trans hb.tape, hk.output.trans hb.output, Nat.le_trans z hk.size, fun j hj => (hk.block j (by omega) (by omega)).trans (hb.block j hj)⟩, rfl, ?_, (), h3⟩
  rw [hMC, hm, List.length_append]
  rfl
theorem sender_set {w wx : World} {b : Nat} {s : Sess} {p : SP} {F : Nat → Prop} (h : SessAt w b s p F) (hb : Below w.heap.size w wx) (h8 : 8 ≤ w.heap.size) (sb : Nat) (hsb : w.heap.size ≤ sb) {a : Bs} (hbox : wx.heap[sb]? = some (.cells #[S a] 9 (0, 0))) :
    Step b F w (wx.setCell ⟨b, 4, none⟩ (.pointer (some ⟨sb, 0, none⟩))) { s with sender := some a } ∧ Kept F w (wx.setCell ⟨b, 4, none⟩ (.pointer (some ⟨sb, 0, none⟩))) := by
  have hk : Kept F w (wx.setCell ⟨b, 4, none⟩ (.pointer (some ⟨sb, 0, none⟩))) := h.k4 (Kept.of_below hb) 4 _
  have hlt : sb < wx.heap.size := (Array.getElem?_eq_some_iff.1 hbox).1
  have z := hb.size
  have h1 := (h.below hb).wide (F' := Fresh F w wx) (fun _ => .inl) (Fresh.blk h z h8)
  have h2 := h1.setSender (by omega) sb (.inr ⟨hsb, hlt⟩) a hbox (fun k q => by
    have := (h.blk k (h.foot k q)).2; omega)
  refine ⟨⟨hk, _, h2.wide (fun k q => ?_) (fun k q => ?_)⟩, hk⟩
  · rcases q with q | q
    · exact .inl q
    · exact .inr ⟨q.1, by simpa [World.setCell] using q.2⟩
  · rcases q with q | q
    · exact h2.blk k (.inl q)
    · exact h2.blk k (.inr ⟨q.1, by simpa [World.setCell] using q.2⟩)
end Go.Proofs.YtapanjfheddfnaaGreatDoor
