/- The range over lines.all: the iterator keeps what is left in a captured variable (one cell, the box): a law for the caller of such an iterator, and the iterator's contract. -/
import Derived.RangeFuncKeeps
import Derived.RangeFuncLeaves
import Derived.RangeFuncBound
import Derived.RangeFuncCalls
import Derived.RangeFuncFrom
import Derived.RangeFuncBox
import Derived.Shelf.Abstract
import Derived.OwnWalkIn
import Derived.TacticsInMore
import Derived.LoopNIn
import Derived.LoopIn
import Derived.Test.YtapanjfheddfnaaGreatDoorStr2
namespace Go.Proofs.YtapanjfheddfnaaGreatDoor
open Go.RowKit Go.Shelf

/-! ### The lines of a text -/
def linesF : Nat → Bs → List Bs
  | 0, _ => []
  | n + 1, s => if s = [] then [] else if (Lib.cut s [10]).2.2 then ((Lib.cut s [10]).1 ++ [10]) :: linesF n (Lib.cut s [10]).2.1 else [(Lib.cut s [10]).1]
def linesL (s : Bs) : List Bs := linesF s.length s

/-- What a round keeps: the tables, and the box. -/
def KpB (Bx : Nat) (W W' : World) : Prop := Below 8 W W' ∧ W'.heap[Bx]? = W.heap[Bx]?
theorem KpB.trans {Bx : Nat} {A B C : World} (h : KpB Bx A B) (k : KpB Bx B C) : KpB Bx A C := ⟨h.1.trans k.1, k.2.trans h.2⟩
theorem KpB.putObj {Bx l : Nat} (W : World) (o : Obj) (hl : 8 ≤ l) (hb : Bx ≠ l) : KpB Bx W (W.putObj l o) :=
  ⟨⟨rfl, rfl, rfl, by simp [World.putObj], fun k hk => World.putObj_heap_other (by omega)⟩, World.putObj_heap_other hb⟩

/-- The iterator's contract: it calls yield with each line; between two calls it writes its box alone. -/
def Iter81 (Bx : Nat) (s : Bs) (W0 : World) : Prop :=
  ∀ (n l : Nat) (J : List Bs → World → Prop) (W : World), 1 ≤ n → Below 8 W0 W → W.heap[Bx]? = W0.heap[Bx]? →
    (∀ t A B row, J t A → A.grownBy B row → (∀ r, row = some r → r = Bx) → J t B) →
    (∀ pre x W1, J pre W1 → pre ++ [x] <+: linesL s → YieldAt Fence.wide (n - 1) Tryz.prog l #[S x] W1 fun e W' => e = .returned (.bool true) ∧ J (pre ++ [x]) W' ∧ KpB Bx W1 W') →
    J [] W →
    CallsIn Fence.wide n Tryz.prog 81 #[.func (.yield l) #[] #[], .pointer (some ⟨Bx, 0, none⟩)] W fun e W' => (∃ v, e = .returned v) ∧ J (linesL s) W'

/-- What a body owes at its end. -/
def bodyB (w : World) (Bx : Nat) (I : List Bs → World → Prop) (xs : List Bs) (W : World) : Exit → Act → World → Prop
  | .normal, _, W' => W'.heap[w.heap.size]? = W.heap[w.heap.size]? ∧ W'.heap[w.heap.size + 1]? = W.heap[w.heap.size + 1]? ∧ KpB Bx W W' ∧ I xs W'
  | _, _, _ => False

theorem wpIn_range81 {g : Operand} {p : Tmp} {assign body : Code} {Q : Exit → Act → World → Prop} {a : Act} {w : World} {n : Nat} {Bx : Nat} {s : Bs}
    (h1 : 2 ≤ n) (hg : a.eval g = .func (.func 81) #[] #[.pointer (some ⟨Bx, 0, none⟩)]) (h8 : 8 ≤ w.heap.size) (hBx : Bx < w.heap.size) (hseq : Iter81 Bx s w)
    (I : List Bs → World → Prop) (hI : ∀ t A B row, I t A → A.grownBy B row → (∀ r, row = some r → r = Bx ∨ (w.heap.size ≤ r ∧ ∃ o : Obj, A.heap[r]? = some o ∧ o.isCells = false)) → I t B) (h0 : I [] w) (a₁ : Bs → Act)
    (hassign : ∀ (l : Nat) (x : Bs) (W : World) (K : Act → World → Prop), K (a₁ x) W →
      assign.wpIn (Fence.wide.inRound l) (n - 1 - 1) Tryz.prog (Exit.then K (fun _ _ _ => False)) { tmps := ((#[p] : Array Tmp).zip (#[S x] : Array Value)).foldl (fun t (p, v) => t.setIfInBounds p v) a.tmps, defers := [] } W)
    (hbody : ∀ (l : Nat) (pre : List Bs) (x : Bs) (W : World), I pre W → pre ++ [x] <+: linesL s → W.heap[w.heap.size]? = some (.deferred (some [])) → (∃ r, W.heap[w.heap.size + 1]? = some (.loop r)) → body.wpIn (Fence.wide.inRound l) (n - 1 - 1) Tryz.prog (bodyB w Bx I (pre ++ [x]) W) (a₁ x) W)
    (hdone : ∀ (D : Nat) (W : World), w.heap.size ≤ D → I (linesL s) W → W.heap[D]? = some (.deferred (some [])) → Q .normal { a with defers := { target := .collected D, args := #[] } :: a.defers } W) :
    (Code.rangeFunc g #[p] assign body).wpIn Fence.wide n Tryz.prog Q a w := by
  have eg : ∀ args w, (callFunc 81 args).run Tryz.prog w = .ok (.enter 81 args) w := enters_of Tryz.func81 (by kernel_rfl) rfl
  refine wpIn_rangeFunc ?_
  intro fn hfn
  obtain ⟨rec, hrec⟩ : ∃ rec : LoopState → Option Code → Loop, rec = fun st pe => { state := st, pending := pe, fn, tmps := a.tmps, params := #[p], assign, body, defers := w.heap.size } := ⟨_, rfl⟩
  obtain ⟨W1, hW1⟩ : ∃ W1, (w.alloc (.deferred (some []))).alloc (.loop (rec .ready none)) = W1 := ⟨_, rfl⟩
  have hL1 : W1.heap[w.heap.size + 1]? = some (.loop (rec .ready none)) := by
    rw [← hW1]; have := World.alloc_heap_new (w.alloc (.deferred (some []))) (.loop (rec .ready none)); rwa [World.size_alloc] at this
  have hK1 : W1.heap[w.heap.size]? = some (.deferred (some [])) := by
    rw [← hW1]; exact (Below.heap_alloc _ _ _ (by simp)).trans (World.alloc_heap_new w _)
  have hIa : ∀ {t : List Bs} {A : World} (o : Obj), I t A → I t (A.alloc o) := fun o h => hI _ _ _ none h (World.grownBy_alloc _ o none) (fun r e => by cases e)
  have hIp : ∀ {t : List Bs} {A : World} {l : Nat} {o : Obj} (o' : Obj), I t A → w.heap.size ≤ l → A.heap[l]? = some o → o.isCells = false → I t (A.putObj l o') :=
    fun o' h hl ho hc => hI _ _ _ (some _) h (grownBy_putObj' _ _ o') (fun r e => by cases e; exact .inr ⟨hl, _, ho, hc⟩)
  have hI1 : I [] W1 := by rw [← hW1]; exact hIa _ (hIa _ h0)
  have hb1 : Below w.heap.size w W1 := by rw [← hW1]; exact ((Below.refl _ w).alloc (Nat.le_refl _) _).alloc (by simp) _
  refine ⟨w.heap.size + 1, [{ target := .collected w.heap.size, args := #[] }], W1, { target := .fn (.func 81) #[.pointer (some ⟨Bx, 0, none⟩)], args := #[.func (.yield (w.heap.size + 1)) #[] #[]] }, W1, 81,
    #[.func (.yield (w.heap.size + 1)) #[] #[]] ++ #[.pointer (some ⟨Bx, 0, none⟩)], W1, ?_, ?_, (fun _ _ => trivial), ?_, (fun _ => by omega), ?_⟩
  · rw [← hW1, hrec]; exact run_enterLoop_outer _ _ _ _ _
  · simp only [resolve, hg]
    simp [go_sem]
  · simp [invoke, go_sem, eg]
  · refine (hseq (n - 1) (w.heap.size + 1)
      (fun pre W => I pre W ∧ W.heap[w.heap.size + 1]? = some (.loop (rec .ready none)) ∧ W.heap[w.heap.size]? = some (.deferred (some [])))
      W1 (by omega) (hb1.mono h8) (hb1.block Bx hBx)
      (fun t A B row hs hg' hr => ⟨hI t A B row hs.1 hg' (fun r e => .inl (hr r e)),
        (hg'.block _ (Array.getElem?_eq_some_iff.1 hs.2.1).1 (fun e => by have := hr _ e.symm; omega)).trans hs.2.1, (hg'.block _ (Array.getElem?_eq_some_iff.1 hs.2.2).1 (fun e => by have := hr _ e.symm; omega)).trans hs.2.2⟩)
      ?_ ⟨hI1, hL1, hK1⟩).mono ?_
    · -- one round
      rintro pre x W ⟨hi, hl, hk⟩ hpre
      have hlt : w.heap.size + 1 < W.heap.size := (Array.getElem?_eq_some_iff.1 hl).1
      have hy := run_yield (P := Tryz.prog) (args := #[S x]) hl (by rw [hrec]; rfl)
      rw [hrec] at hy
      refine ⟨fn, _, assign, body, hy, roundIn_of_wpIn hfn (hassign _ x W _ ⟨_, run_beginRound hl (by rw [hrec]), ?_⟩)⟩
      have hl2 : (W.putObj (w.heap.size + 1) (.loop { rec .ready none with state := .busy })).heap[w.heap.size + 1]? = some (.loop { rec .ready none with state := .busy }) := World.putObj_heap_same hlt
      have hk2 : (W.putObj (w.heap.size + 1) (.loop { rec .ready none with state := .busy })).heap[w.heap.size]? = some (.deferred (some [])) := (World.putObj_heap_other (by omega)).trans hk
      refine wpIn_mono (hbody _ pre x _ (hIp _ hi (by omega) hl rfl) hpre hk2 ⟨_, hl2⟩) ?_
      rintro e a3 W3 hp
      cases e with
      | normal =>
        obtain ⟨hd3, hl3, hkp3, hi3⟩ := hp
        have hl3' := hl3.trans hl2
        have hd3' := hd3.trans hk2
        have hr := run_endRound (P := Tryz.prog) none hl3'
        rw [hrec] at hr
        refine ⟨_, _, hr, rfl, ⟨hIp _ hi3 (by omega) hl3' rfl, ?_, (World.putObj_heap_other (by omega)).trans hd3'⟩, ?_⟩
        · rw [World.putObj_heap_same (Array.getElem?_eq_some_iff.1 hl3').1, hrec]; rfl
        · exact ((KpB.putObj W _ (by omega) (by omega)).trans hkp3).trans (KpB.putObj W3 _ (by omega) (by omega))
      | ret => exact hp.elim
      | exit id => exact hp.elim
      | goto t => exact hp.elim
      | panic ch => exact hp.elim
      | outgrown => exact hp.elim
    · -- behind the iterator
      rintro e W2 ⟨⟨v, rfl⟩, hi, hl, hk⟩
      exact ⟨none, _, by have := run_endLoop (P := Tryz.prog) hl (by rw [hrec]; simp); rw [hrec] at this; exact this, hdone _ _ (Nat.le_refl _) (hIp _ hi (by omega) hl rfl) ((World.putObj_heap_other (by omega)).trans hk)⟩
end Go.Proofs.YtapanjfheddfnaaGreatDoor
