/- What every contract of this seat speaks of: the package variables' tables (Glob) and which blocks may have turned (Kept). -/
import Derived.Test.YtapanjfheddfnaaGreatDoorProg
import Derived.Test.YtapanjfheddfnaaGreatDoorLib
import Derived.Test.YtapanjfheddfnaaGreatDoorPure
import Derived.Lib.SmallJoins
import Derived.Lib.ConvBytes
import Derived.Test.YtapanjfheddfnaaGreatDoorShelf
import Derived.Outline
import Derived.Deep.DeepFit
namespace Go.Proofs.YtapanjfheddfnaaGreatDoor
open Go.RowKit

/-- Of the blocks that were there, none beyond S has turned. -/
structure Kept (S : Nat → Prop) (w w' : World) : Prop where
  os : w'.os = w.os
  tape : w'.tape = w.tape
  output : w'.output = w.output
  size : w.heap.size ≤ w'.heap.size
  block : ∀ k, k < w.heap.size → ¬ S k → w'.heap[k]? = w.heap[k]?

def NoBlk : Nat → Prop := fun _ => False

theorem Kept.refl (S : Nat → Prop) (w : World) : Kept S w w := ⟨rfl, rfl, rfl, Nat.le_refl _, fun _ _ _ => rfl⟩
theorem Kept.trans {S : Nat → Prop} {a b c : World} (h : Kept S a b) (k : Kept S b c) : Kept S a c :=
  ⟨k.os.trans h.os, k.tape.trans h.tape, k.output.trans h.output, Nat.le_trans h.size k.size, fun i hi hs => (k.block i (Nat.lt_of_lt_of_le hi h.size) hs).trans (h.block i hi hs)⟩
/-- Two steps, the second's blocks being the first's or new. -/
theorem Kept.trans' {S S' : Nat → Prop} {a b c : World} (h : Kept S a b) (k : Kept S' b c) (hs : ∀ i, S' i → S i ∨ a.heap.size ≤ i) : Kept S a c :=
  ⟨k.os.trans h.os, k.tape.trans h.tape, k.output.trans h.output, Nat.le_trans h.size k.size, fun i hi hn =>
    (k.block i (Nat.lt_of_lt_of_le hi h.size) (fun e => (hs i e).elim hn (fun h' => by omega))).trans (h.block i hi hn)⟩
theorem Kept.mono {S S' : Nat → Prop} {a b : World} (h : Kept S a b) (hs : ∀ i, S i → S' i ∨ a.heap.size ≤ i) : Kept S' a b :=
  ⟨h.os, h.tape, h.output, h.size, fun i hi hn => h.block i hi (fun e => (hs i e).elim hn (fun h' => by omega))⟩
theorem Kept.of_below {S : Nat → Prop} {a b : World} (h : Below a.heap.size a b) : Kept S a b :=
  ⟨h.os, h.tape, h.output, h.size, fun i hi _ => h.block i hi⟩
theorem Kept.below {S : Nat → Prop} {a b : World} (h : Kept S a b) (hs : ∀ i, S i → a.heap.size ≤ i) : Below a.heap.size a b :=
  ⟨h.os, h.tape, h.output, h.size, fun i hi => h.block i hi (fun e => by have := hs i e; omega)⟩
theorem Kept.below_of {S : Nat → Prop} {B : Nat} {a b : World} (h : Kept S a b) (hB : B ≤ a.heap.size) (hs : ∀ i, S i → B ≤ i) : Below B a b :=
  ⟨h.os, h.tape, h.output, h.size, fun i hi => h.block i (by omega) (fun e => by have := hs i e; omega)⟩
theorem Kept.of_belowB {S : Nat → Prop} {B : Nat} {a b : World} (h : Below B a b) (hs : ∀ i, i < a.heap.size → B ≤ i → S i) : Kept S a b :=
  ⟨h.os, h.tape, h.output, h.size, fun i hi hn => h.block i (Nat.lt_of_not_le fun h' => hn (hs i hi h'))⟩
theorem Kept.drew {S : Nat → Prop} {a b : World} (h : Kept S a b) : Kept S a b.drew := ⟨h.os, h.tape, h.output, h.size, h.block⟩
theorem Kept.drewN {S : Nat → Prop} {a b : World} (h : Kept S a b) (n : Nat) : Kept S a (b.drewN n) := ⟨h.os, h.tape, h.output, h.size, h.block⟩
theorem Kept.alloc {S : Nat → Prop} {a b : World} (h : Kept S a b) (o : Obj) : Kept S a (b.alloc o) :=
  h.trans (Kept.of_below ((Below.refl _ _).alloc (Nat.le_refl _) _))
theorem Kept.setCell {S : Nat → Prop} {a b : World} (h : Kept S a b) {p : Addr} (hp : S p.block ∨ a.heap.size ≤ p.block) (u : Value) : Kept S a (b.setCell p u) :=
  ⟨h.os, h.tape, h.output, by simpa [World.setCell] using h.size, fun i hi hn => by
    rw [Below.heap_setCell _ _ _ _ (fun e => by subst e; exact hp.elim hn (fun h' => by omega))]
    exact h.block i hi hn⟩
theorem Kept.grown {S : Nat → Prop} {a b c : World} {row : Option Nat} (h : Kept S a b) (hg : b.grownBy c row) (hr : ∀ k, row = some k → S k ∨ a.heap.size ≤ k) : Kept S a c :=
  ⟨hg.os.trans h.os, hg.tape.trans h.tape, hg.output.trans h.output, Nat.le_trans h.size hg.size, fun i hi hn =>
    (hg.block i (Nat.lt_of_lt_of_le hi h.size) (fun e => (hr i e.symm).elim hn (fun h' => by omega))).trans (h.block i hi hn)⟩
theorem Kept.cell {S : Nat → Prop} {a b : World} (h : Kept S a b) {p : Addr} {v : Value} (hc : a.cell? p = some v) (hn : ¬ S p.block) : b.cell? p = some v :=
  (World.cell?_of_block (h.block p.block (World.block_lt_of_cell? a p hc) hn)).trans hc
theorem Kept.heap {S : Nat → Prop} {a b : World} (h : Kept S a b) {k : Nat} {o : Obj} (hc : a.heap[k]? = some o) (hn : ¬ S k) : b.heap[k]? = some o :=
  (h.block k (Array.getElem?_eq_some_iff.1 hc).1 hn).trans hc

/-- What the package's variables hold, as far as a contract asks. -/
structure Glob (w : World) : Prop where
  e0 : ∃ te pe, w.cell? ⟨0, 0, none⟩ = some (.iface te pe)
  e1 : ∃ te pe, w.cell? ⟨1, 0, none⟩ = some (.iface te pe)
  ml : ∃ m, w.cell? ⟨2, 0, none⟩ = some (.int .i64 m)
  p10 : Lib.TabIs Tryz.prog w "internal/strconv.uint64pow10" .u64 Lib.pow10Tab
  u8 : Lib.Utf8Tabs 4 5 w
  sz : 8 ≤ w.heap.size

theorem g_p10 : Tryz.prog.globalNamed "internal/strconv.uint64pow10" = some 3 := by kernel_rfl

theorem Glob.kept {S : Nat → Prop} {w w' : World} (G : Glob w) (h : Kept S w w') (hs : ∀ k, S k → 8 ≤ k) : Glob w' := by
  have n : ∀ k, k < 8 → ¬ S k := fun k hk e => by have := hs k e; omega
  obtain ⟨te, pe, he⟩ := G.e0
  obtain ⟨te1, pe1, he1⟩ := G.e1
  obtain ⟨m, hm⟩ := G.ml
  refine ⟨⟨te, pe, h.cell he (n 0 (by omega))⟩, ⟨te1, pe1, h.cell he1 (n 1 (by omega))⟩, ⟨m, h.cell hm (n 2 (by omega))⟩, ?_, ⟨fun c hc => h.cell (G.u8.1 c hc) (n 4 (by omega)), fun i hi => ⟨h.cell (G.u8.2 i hi).1 (n 5 (by omega)), h.cell (G.u8.2 i hi).2 (n 5 (by omega))⟩⟩, Nat.le_trans G.sz h.size⟩
  have hp := G.p10
  unfold Lib.TabIs World.var? at hp ⊢
  rw [g_p10] at hp ⊢
  simp only [Option.bind_some] at hp ⊢
  rw [h.block 3 (by have := G.sz; omega) (n 3 (by omega))]
  exact hp
theorem Glob.below {B : Nat} {w w' : World} (G : Glob w) (h : Below B w w') (hB : 8 ≤ B) : Glob w' :=
  G.kept (S := fun k => B ≤ k) (Kept.of_belowB h (fun _ _ h' => h')) (fun k hk => by omega)
theorem Glob.below' {w w' : World} (G : Glob w) (h : Below w.heap.size w w') : Glob w' := G.below h G.sz

theorem below_drewN' {B : Nat} {a w : World} (h : Below B a w) : ∀ n, Below B a (w.drewN n) := fun n => ⟨h.os, h.tape, h.output, h.size, h.block⟩
theorem below_then' {w w1 w2 : World} (h : Below w.heap.size w w1) (k : Below w1.heap.size w1 w2) : Below w.heap.size w w2 :=
  h.trans (k.mono h.size)

theorem below_grow {a w : World} {B : Nat} (h : Below B a w) (hB : B ≤ w.heap.size) (os : Array Obj) : Below B a (Sort.grow w os) :=
  h.trans ⟨rfl, rfl, rfl, by simp [Sort.grow], fun k hk => by simp only [Sort.grow]; rw [Array.getElem?_append_left (by omega)]⟩

/-! ### Strings as lists of bytes -/

abbrev S (l : Bs) : Value := .string ⟨l.toArray⟩
theorem ext_list (l : Bs) (a b : Nat) : (⟨l.toArray⟩ : ByteArray).extract a b = ⟨((l.take b).drop a).toArray⟩ := by
  apply ByteArray.ext
  simp [ByteArray.data_extract, List.drop_take]
theorem ext_to (l : Bs) (a : Nat) : (⟨l.toArray⟩ : ByteArray).extract a l.length = ⟨(l.drop a).toArray⟩ := by rw [ext_list, List.take_length]
theorem ext_from (l : Bs) (b : Nat) : (⟨l.toArray⟩ : ByteArray).extract 0 b = ⟨(l.take b).toArray⟩ := by rw [ext_list, List.drop_zero]
theorem size_list (l : Bs) : (⟨l.toArray⟩ : ByteArray).size = l.length := rfl
theorem app_list (a b : Bs) : (⟨a.toArray⟩ : ByteArray) ++ (⟨b.toArray⟩ : ByteArray) = ⟨(a ++ b).toArray⟩ := by
  apply ByteArray.ext
  simp
theorem ret_str {a b : Bs} (h : a = b) : Ending.returned (S a) = .returned (S b) := by rw [h]

/-! ### Itoa -/
theorem text_calls (n : Int) (h0 : -9223372036854775808 ≤ n) (h1 : n ≤ 9223372036854775807) (w : World) (G : Glob w) :
    Calls Tryz.prog 28 #[.int .i64 n] w fun e w' => e = .returned (S (Lib.itoa n)) ∧ Below w.heap.size w w' := by
  go_enter Tryz.func28, Tryz.ntmps28
  go_wp2_with (go_at_call 50; refine (Tryz.strconv_Itoa n h0 h1 _ G.p10).mono ?_; rintro e w' ⟨rfl, k, os, rfl⟩)
  go_ret
  exact ⟨rfl, below_grow (below_drewN' (Below.refl _ _) _) (Nat.le_refl _) _⟩
end Go.Proofs.YtapanjfheddfnaaGreatDoor
