/- A region that draws its order, in a round of a range over a function: it goes as outside of one, for it holds no defer statement. No program here. -/
import Derived.OrdersIn
import Derived.OrdersHeld
import Derived.RangeFuncCalls
import Derived.WalkKit
namespace Go.Proofs.YtapanjfheddfnaaGreatDoor
open Go

variable {P : Program} {ops : Array Oper} {Q : Exit → Act → World → Prop} {md : Region.Mode} {l n : Nat}

theorem wpOpIn_of_op (hl : ¬ LetsOut Q) {i : Nat} (hnd : ∀ (o : Oper), ops[i]? = some o → ∀ (c : Call), o.op ≠ Op.defer c) {K K' : Act → World → Prop} {a : Act} {w : World} (hK : ∀ a w, K a w → K' a w)
    (h : wpOp P ops Q i K a w) : wpOpIn (Fence.wide.inRound l) n P ops Q i K' a w := by
  unfold wpOp at h
  unfold wpOpIn
  cases ho : ops[i]? with
  | none => rw [ho] at h; exact hK _ _ h
  | some o =>
    rw [ho] at h
    simp only at h ⊢
    split
    · rename_i hw
      rw [if_pos hw] at h
      rcases h with h | ⟨_, h⟩
      · refine ⟨fun _ _ => trivial, ?_⟩
        unfold Oper.wp at h
        rw [Oper.semAt_eq _ _ _ (hnd o ho)]
        generalize (execOp a.eval o).run P w = r at h
        cases r with
        | ok x w' =>
          cases x <;> simp only [Oper.upon, Oper.uponIn] at h ⊢
          case value u => exact hK _ _ h
          case skip => exact hK _ _ h
          case defer d => exact hK _ _ h
          case enter f args =>
            refine ⟨(fun h' => by cases h'), CallsIn.inRound l ((callsIn_wide.2 h).mono ?_)⟩
            intro e w'' he
            cases e with
            | returned u => exact hK _ _ he
            | panicked c => exact he
            | outgrown => exact he
          case row row args =>
            refine ⟨fun h' => (by cases h'), fun c cs _ => ?_⟩
            obtain ⟨v, w'', hv, hs⟩ := h c cs
            exact ⟨v, w'', hK _ _ hv, by rw [fenced_inRound]; exact stepsIn_wide.2 hs⟩
          all_goals exact h
        | halt x w' => cases x <;> simp only [Oper.upon, Oper.uponIn] at h ⊢ <;> exact h
      · exact absurd h hl
    · rename_i hw
      rw [if_neg hw] at h
      exact ⟨fun _ _ => trivial, hK _ _ h⟩

theorem wpAnyIn_of_any (hl : ¬ LetsOut Q) (hnd : ∀ (i : Nat) (o : Oper), ops[i]? = some o → ∀ (c : Call), o.op ≠ Op.defer c) : ∀ (fuel : Nat) (listed : Array Bool) (a : Act) (w : World), wpAny P md ops Q fuel listed a w → wpAnyIn (Fence.wide.inRound l) n P md ops Q fuel listed a w
  | 0, _, _, _, h => h
  | fuel + 1, listed, a, w, h => ⟨h.1, fun i hi => wpOpIn_of_op hl (hnd i) (fun a' w' h' => wpAnyIn_of_any hl hnd fuel _ a' w' h') (h.2 i hi)⟩

/-- The post, but for what can't come. -/
def NoOut (Q : Exit → Act → World → Prop) : Exit → Act → World → Prop
  | .outgrown, _, _ => False
  | e, a, w => Q e a w
theorem NoOut.imp : ∀ (e : Exit) (a : Act) (w : World), NoOut Q e a w → Q e a w := fun e a w h => by cases e <;> first | exact h | exact (h : False).elim
theorem NoOut.no : ¬ LetsOut (NoOut Q) := fun ⟨_, _, h⟩ => h

def noDefer (ops : Array Oper) : Bool := ops.all fun o => match o.op with | .defer _ => false | _ => true
theorem noDefer_spec (h : noDefer ops = true) : ∀ (i : Nat) (o : Oper), ops[i]? = some o → ∀ (c : Call), o.op ≠ Op.defer c := by
  intro i o ho c hc
  unfold noDefer at h
  rw [Array.all_eq_true] at h
  obtain ⟨hi, rfl⟩ := Array.getElem?_eq_some_iff.1 ho
  have := h i hi
  rw [hc] at this
  cases this

/-- 'wpAnyH' (OrdersHeld.lean), but behind operation z, which waits for all others, nothing is asked of the world. -/
def wpAnyG (P : Program) (md : Region.Mode) (ops : Array Oper) (Q : Exit → Act → World → Prop) (S : World → Prop) (z : Nat) : Nat → Array Bool → Act → World → Prop
  | 0, listed, a, w => Region.ready md ops listed = [] ∧ Q .normal a w
  | fuel + 1, listed, a, w =>
    (Region.ready md ops listed = [] → Q .normal a w) ∧
    ∀ i ∈ Region.ready md ops listed, wpOp P ops Q i (fun a' w' => ((listed.setIfInBounds i true).getD z true = false → S w') ∧ wpAnyG P md ops Q S z fuel (listed.setIfInBounds i true) a' w') a w
theorem wpAny_of_G {S : World → Prop} {z : Nat} : ∀ (fuel : Nat) (listed : Array Bool) (a : Act) (w : World), wpAnyG P md ops Q S z fuel listed a w → wpAny P md ops Q fuel listed a w
  | 0, _, _, _, h => h
  | fuel + 1, _, _, _, h => ⟨h.1, fun i hi => wpOp_mono (fun a' w' h' => wpAny_of_G fuel _ a' w' h'.2) (h.2 i hi)⟩

/-- Operation z waits for operation i. -/
def waitsOn (md : Region.Mode) (ops : Array Oper) (z i : Nat) : Bool :=
  match ops[z]? with
  | none => true
  | some o => o.after.any fun e => Region.binds md e && e.on == i

theorem wpAnyG_first {S T : World → Prop} {z : Nat} {i : Nat} (hiz : i ≠ z) {oi : Oper} {v : Value} (hi : ops[i]? = some oi) (hsel : ∀ (j : Nat) (o : Oper) cs b, ops[j]? = some o → o.op ≠ .select cs b)
    (hQ : ∀ c a w, Q (.panic c) (a.put oi.dst v) w → Q (.panic c) a w) :
    ∀ (fuel : Nat) (listed : Array Bool) (a : Act) (w : World), ((∀ w, T w) ∨ (waitsOn md ops z i = true ∧ listed.getD z true = false ∧ ∀ w, S w → T w)) →
      (∀ j oj, ops[j]? = some oj → j ≠ i → listed.getD j true = false → (∀ e ∈ oj.after, Region.binds md e = true → e.on ≠ i) → oi.apart ops oj = true) →
      i ∈ Region.ready md ops listed → YieldsIf P ops T oi v a → T w → ((listed.setIfInBounds i true).getD z true = false → S w) →
      wpAnyG P md ops Q S z fuel (listed.setIfInBounds i true) (a.put oi.dst v) w → wpAnyG P md ops Q S z (fuel + 1) listed a w := by
  intro fuel
  induction fuel with
  | zero =>
    intro listed a w _ _ hr hy hS hSz H
    refine ⟨fun h => (by rw [h] at hr; cases hr), fun j hj => ?_⟩
    by_cases hji : j = i
    · subst hji; exact hy.wpOp hi hS ⟨hSz, H⟩
    · have := ready_mono hj hji
      rw [H.1] at this
      cases this
  | succ fuel ih =>
    intro listed a w hT hfree hr hy hS hSz H
    refine ⟨fun h => (by rw [h] at hr; cases hr), fun j hj => ?_⟩
    by_cases hji : j = i
    · subst hji; exact hy.wpOp hi hS ⟨hSz, H⟩
    · have h1 := H.2 j (ready_mono hj hji)
      obtain ⟨hjun, oj, hoj, hall⟩ := mem_ready.1 hj
      have hnot : ∀ e ∈ oj.after, Region.binds md e = true → e.on ≠ i := fun e he hb heq => by
        have h1 := hall e he hb
        have h0 := (mem_ready.1 hr).1
        rw [heq] at h1
        rcases Nat.lt_or_ge i listed.size with h' | h'
        · simp [h'] at h0 h1; rw [h0] at h1; cases h1
        · simp [Array.getElem?_eq_none h'] at h1
      have hTw : ((∀ w, T w) ∨ (waitsOn md ops z i = true ∧ (listed.setIfInBounds j true).getD z true = false ∧ ∀ w, S w → T w)) := by
        rcases hT with hT | ⟨hz, hl, hT⟩
        · exact .inl hT
        · have hjz : j ≠ z := by
            rintro rfl
            unfold waitsOn at hz
            rw [hoj] at hz
            simp only [Array.any_eq_true, Bool.and_eq_true, beq_iff_eq] at hz
            obtain ⟨q, hq, hb, he⟩ := hz
            exact hnot _ (Array.getElem_mem hq) hb he
          exact .inr ⟨hz, (getD_set_ne true hjz).trans hl, hT⟩
      have h2 := wpOp_putIf hoj (hfree j oj hoj hji hjun hnot) (fun cs b => hsel i oi cs b hi) (fun cs b => hsel j oj cs b hoj) hQ hy h1
      have hfree' : ∀ k ok, ops[k]? = some ok → k ≠ i → (listed.setIfInBounds j true).getD k true = false →
          (∀ e ∈ ok.after, Region.binds md e = true → e.on ≠ i) → oi.apart ops ok = true := fun k ok hk hki hun hno => by
        refine hfree k ok hk hki ?_ hno
        by_cases hjk : j = k
        · subst hjk; exact hjun
        · rw [getD_set_ne true hjk] at hun; exact hun
      have e := Array.setIfInBounds_comm (xs := listed) true true hji
      have hgo : ((listed.setIfInBounds i true).setIfInBounds j true).getD z true = (listed.setIfInBounds j true).getD z true := by
        rw [Array.setIfInBounds_comm _ _ (Ne.symm hji)]; exact getD_set_ne true hiz
      refine wpOp_mono (fun a' w' h3 => ⟨fun hl => h3.2.1 (hgo.trans hl), ih (listed.setIfInBounds j true) a' w' hTw hfree' (ready_mono hr (Ne.symm hji)) h3.1 ?_ ?_ ?_⟩) h2
      · rcases hTw with hT | ⟨_, hl, hT⟩
        · exact hT w'
        · exact hT w' (h3.2.1 (hgo.trans hl))
      · intro hz'
        exact h3.2.1 (hgo.trans ((getD_set_ne true hiz).symm.trans hz'))
      · rw [← Array.setIfInBounds_comm _ _ (Ne.symm hji)]
        exact h3.2.2

/-- An operation that yields in each world that meets S, and for which z waits: it may be taken first. -/
theorem wpAnyG_takeD {S : World → Prop} {z : Nat} (i : Nat) (d : Option Tmp) {oi : Oper} {v : Value} {fuel : Nat} {listed : Array Bool} {a : Act} {w : World} (hiz : i ≠ z) (hz : waitsOn md ops z i = true) (hl : listed.getD z true = false) (hi : ops[i]? = some oi) (hd : oi.dst = d)
    (hs : Region.noSelect ops = true) (hf : Region.free md ops listed i = true) (hr : (Region.ready md ops listed).contains i = true)
    (hQ : ∀ c a w, Q (.panic c) (a.put d v) w → Q (.panic c) a w) (hg : oi.guard = none) (hy : ∀ w, S w → (execOp a.eval oi).run P w = .ok (.value v) w) (hS : S w)
    (h : wpAnyG P md ops Q S z fuel (listed.setIfInBounds i true) (a.put d v) w) : wpAnyG P md ops Q S z (fuel + 1) listed a w := by
  subst hd
  exact wpAnyG_first (T := S) hiz hi (Region.noSelect_spec hs) hQ fuel listed a w (.inr ⟨hz, hl, fun _ h => h⟩) (Region.free_spec hi hf) (by simpa using hr) (.inl ⟨by simp [Region.wanted, hg], hy⟩) hS (fun _ => hS) h
/-- One that yields in every world. -/
theorem wpAnyG_takeT {S : World → Prop} {z : Nat} (i : Nat) (d : Option Tmp) {oi : Oper} {v : Value} {fuel : Nat} {listed : Array Bool} {a : Act} {w : World} (hiz : i ≠ z) (hi : ops[i]? = some oi) (hd : oi.dst = d)
    (hs : Region.noSelect ops = true) (hf : Region.free md ops listed i = true) (hr : (Region.ready md ops listed).contains i = true)
    (hQ : ∀ c a w, Q (.panic c) (a.put d v) w → Q (.panic c) a w) (hg : oi.guard = none) (hy : ∀ w, (execOp a.eval oi).run P w = .ok (.value v) w) (hS : (listed.setIfInBounds i true).getD z true = false → S w)
    (h : wpAnyG P md ops Q S z fuel (listed.setIfInBounds i true) (a.put d v) w) : wpAnyG P md ops Q S z (fuel + 1) listed a w := by
  subst hd
  exact wpAnyG_first (T := fun _ => True) hiz hi (Region.noSelect_spec hs) hQ fuel listed a w (.inl fun _ => trivial) (Region.free_spec hi hf) (by simpa using hr) (.inl ⟨by simp [Region.wanted, hg], fun w _ => hy w⟩) trivial hS h

/-- The beginning, in a round. -/
theorem wpIn_region_heldR {id : Nat} {a : Act} {w : World} (S : World → Prop) (z : Nat) (hm : P.follows .mixedOrders = true) (hd : noDefer ops = true)
    (h : wpAnyG P .any ops (NoOut Q) S z ops.size (Array.replicate ops.size false) a w.drew) : (Code.region id ops true).wpIn (Fence.wide.inRound l) n P Q a w :=
  wpIn_mono (wpIn_region_any hm (wpAnyIn_of_any NoOut.no (noDefer_spec hd) _ _ _ _ (wpAny_of_G _ _ _ _ h))) NoOut.imp
/-- The beginning, outside of one. -/
theorem wp_region_heldG {id : Nat} {a : Act} {w : World} (S : World → Prop) (z : Nat) (hm : P.follows .mixedOrders = true)
    (h : wpAnyG P .any ops Q S z ops.size (Array.replicate ops.size false) a w.drew) : (Code.region id ops true).wp P Q a w :=
  wp_region_any hm (wpAny_of_G _ _ _ _ h)

/-- The one operation that may come up now, its run known. -/
theorem wpAnyG_one {S : World → Prop} {z i : Nat} {o : Oper} {fuel : Nat} {listed : Array Bool} {a : Act} {w w' : World} {v : Value} (hr : Region.ready md ops listed = [i]) (hi : ops[i]? = some o)
    (hg : o.guard = none) (hrun : (execOp a.eval o).run P w = .ok (.value v) w') (hS : (listed.setIfInBounds i true).getD z true = false → S w') (h : wpAnyG P md ops Q S z fuel (listed.setIfInBounds i true) (a.put o.dst v) w') :
    wpAnyG P md ops Q S z (fuel + 1) listed a w := by
  refine ⟨fun h0 => by (rw [hr] at h0; cases h0), fun j hj => ?_⟩
  obtain rfl : j = i := by rw [hr] at hj; simpa using hj
  unfold wpOp
  rw [hi]
  simp only [Region.wanted, hg, if_true]
  exact .inl (by unfold Oper.wp; rw [hrun]; exact ⟨hS, h⟩)
theorem wpAnyG_oneD {S : World → Prop} {z : Nat} (i : Nat) (d : Option Tmp) {o : Oper} {fuel : Nat} {listed : Array Bool} {a : Act} {w w' : World} {v : Value} (hr : Region.ready md ops listed = [i]) (hi : ops[i]? = some o) (hd : o.dst = d)
    (hg : o.guard = none) (hrun : (execOp a.eval o).run P w = .ok (.value v) w') (hS : (listed.setIfInBounds i true).getD z true = false → S w') (h : wpAnyG P md ops Q S z fuel (listed.setIfInBounds i true) (a.put d v) w') :
    wpAnyG P md ops Q S z (fuel + 1) listed a w := by
  subst hd
  exact wpAnyG_one hr hi hg hrun hS h
/-- A call, the one operation that may come up now. -/
theorem wpAnyG_call {S : World → Prop} {z : Nat} (i : Nat) (d : Option Tmp) {o : Oper} {fuel : Nat} {listed : Array Bool} {a : Act} {w : World} {f : Nat} {args : Array Value} (hr : Region.ready md ops listed = [i]) (hi : ops[i]? = some o) (hd : o.dst = d)
    (hg : o.guard = none) (hrun : (execOp a.eval o).run P w = .ok (.enter f args) w) (hc : Calls P f args w fun e w' => ∃ v, e = .returned v ∧ ((listed.setIfInBounds i true).getD z true = false → S w') ∧ wpAnyG P md ops Q S z fuel (listed.setIfInBounds i true) (a.put d v) w') :
    wpAnyG P md ops Q S z (fuel + 1) listed a w := by
  subst hd
  refine ⟨fun h0 => by (rw [hr] at h0; cases h0), fun j hj => ?_⟩
  obtain rfl : j = i := by rw [hr] at hj; simpa using hj
  unfold wpOp
  rw [hi]
  simp only [Region.wanted, hg, if_true]
  refine .inl ?_
  unfold Oper.wp
  rw [hrun]
  refine hc.mono ?_
  rintro e w' ⟨v, rfl, h1, h2⟩
  exact ⟨h1, h2⟩
theorem wpAnyG_one_skip {S : World → Prop} {z i : Nat} {o : Oper} {fuel : Nat} {listed : Array Bool} {a : Act} {w w' : World} (hr : Region.ready md ops listed = [i]) (hi : ops[i]? = some o)
    (hg : o.guard = none) (hrun : (execOp a.eval o).run P w = .ok .skip w') (hS : (listed.setIfInBounds i true).getD z true = false → S w') (h : wpAnyG P md ops Q S z fuel (listed.setIfInBounds i true) (a.put o.dst undef) w') :
    wpAnyG P md ops Q S z (fuel + 1) listed a w := by
  refine ⟨fun h0 => by (rw [hr] at h0; cases h0), fun j hj => ?_⟩
  obtain rfl : j = i := by rw [hr] at hj; simpa using hj
  unfold wpOp
  rw [hi]
  simp only [Region.wanted, hg, if_true]
  exact .inl (by unfold Oper.wp; rw [hrun]; exact ⟨hS, h⟩)
theorem wpAnyG_done {S : World → Prop} {z : Nat} {listed : Array Bool} {a : Act} {w : World} (hr : Region.ready md ops listed = []) (h : Q .normal a w) :
    ∀ fuel, wpAnyG P md ops Q S z fuel listed a w
  | 0 => ⟨hr, h⟩
  | _ + 1 => ⟨fun _ => h, by rw [hr]; simp⟩
end Go.Proofs.YtapanjfheddfnaaGreatDoor
