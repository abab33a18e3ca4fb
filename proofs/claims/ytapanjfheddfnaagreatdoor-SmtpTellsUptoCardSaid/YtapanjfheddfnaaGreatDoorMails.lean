/- A row of messages: what append leaves of it. -/
import Derived.Test.YtapanjfheddfnaaGreatDoorEnv
import Derived.Test.YtapanjfheddfnaaGreatDoorWhole
import Derived.Laws.OwnMore
import Derived.Deep.DeepAppendWide
import Derived.OwnWalk
namespace Go.Proofs.YtapanjfheddfnaaGreatDoor
open Go.RowKit Go.Shelf

/-- append of one envelope to a row of envelopes. -/
theorem append3 {w : World} {vm : Value} {n : Nat} {xs : List Value} (hown : w.ownsRow 8 35 3 vm n xs) (h8 : 8 ≤ w.heap.size) (ty : TypeId) (ad : Addr) (c : Nat) (news : List Value) (hl : news.length = 1 * 3)
    (hnews : ∀ j u, news[j]? = some u → w.cell? (ad.add j) = some u) (h1 : ∀ u ∈ news, u.oneCell' = true) (hn : n ≤ 1000000) :
    ∃ v' w', (Builtin.append_ #[40, 40] ty #[vm, .slice (some ad) 1 c]).run Tryz.prog w = .ok v' w' ∧ w'.ownsRow 8 35 3 v' (n + 1) (xs ++ news) ∧ w.grownBy w' vm.ownBlock ∧ (∀ k, v'.ownBlock = some k → vm.ownBlock = some k ∨ w.heap.size ≤ k) := by
  have hinf : (Tryz.prog.info? 35).map (fun i => (i.zero, i.size, i.bytes)) = some (some (.agg #[.string ⟨#[]⟩, .slice none 0 0, .string ⟨#[]⟩]), 3, 56) := by kernel_rfl
  obtain ⟨i, hi, hz, hs, hb⟩ := info_parts hinf
  obtain ⟨v', w', hr, ho, hg, _⟩ := run_append_own_wide (P := Tryz.prog) w 8 40 ty 35 i _ 3 56 Tryz.underlying40 hi hz hs hb rfl (by omega) vm n xs hown ad 1 c news hl hnews h1 (by simp only [maxLen]; omega) (by omega) h8
  refine ⟨v', w', hr, ho, hg, fun k hk => ?_⟩
  rcases hown.2 with ⟨rfl, rfl⟩ | ⟨g, cap, cur, rfl, hbg, hgc, hnc, hcm, hcs, htake⟩
  · have hr2 := run_append_nil (P := Tryz.prog) w 40 ty 35 i _ Tryz.underlying40 hi hz ad 1 c news (by rw [hs]; exact hl) hnews (by omega) (by omega) (by rw [hb]; decide)
    rw [hr] at hr2
    injection hr2 with e1 e2
    subst e1
    simp [Value.ownBlock] at hk
    exact .inr (by omega)
  · by_cases hroom : n + 1 ≤ cap
    · obtain ⟨w2, hr2, _⟩ := run_append_fits (P := Tryz.prog) w 8 40 ty 35 i 3 Tryz.underlying40 hi hs g n cap xs hown ad 1 c news hl hnews h1 hroom
      rw [hr] at hr2
      injection hr2 with e1 e2
      subst e1
      exact .inl hk
    · have holds : ∀ j u, xs[j]? = some u → w.cell? ((⟨g, 0, none⟩ : Addr).add j) = some u := hown.cells (g := g) rfl
      have hr2 := run_append_grow (P := Tryz.prog) w 40 ty 35 i _ Tryz.underlying40 hi hz ⟨g, 0, none⟩ n cap xs (by rw [hs]; exact hown.1) holds ad 1 c news (by rw [hs]; exact hl) hnews (by omega) (by omega) (growslice_fits_wide (by omega) (by
        rw [hb]
        show ((n + 1) + (n + 1) / 4 + 192) * 56 ≤ _
        omega))
      rw [hr] at hr2
      injection hr2 with e1 e2
      subst e1
      simp [Value.ownBlock] at hk
      exact .inr (by omega)

def cellsM : List Mail → List Value → List Value
  | m :: ms, v :: vs => S m.1 :: v :: S m.2.2 :: cellsM ms vs
  | _, _ => []
theorem cellsM_append : ∀ (ms : List Mail) (vs : List Value) (m : Mail) (v : Value), ms.length = vs.length → cellsM (ms ++ [m]) (vs ++ [v]) = cellsM ms vs ++ [S m.1, v, S m.2.2]
  | [], [], m, v, _ => rfl
  | x :: ms, y :: vs, m, v, h => by
    have := cellsM_append ms vs m v (by simpa using h)
    simp only [List.cons_append, cellsM, this]
/-- The slice value vm holds the messages ms, their recipients' rows being vs; its blocks are among M. -/
def MailsV (W : World) (vm : Value) (ms : List Mail) (vs : List Value) (M : Nat → Prop) : Prop :=
  ms.length = vs.length ∧ W.ownsRow 8 35 3 vm ms.length (cellsM ms vs) ∧ (∀ (j : Nat) (m : Mail) (v : Value), ms[j]? = some m → vs[j]? = some v → RowAt W 9 v (strsV m.2.1)) ∧ (∀ k, vm.ownBlock = some k → M k) ∧ (∀ v ∈ vs, ∀ k, v.ownBlock = some k → M k) ∧ ∀ k, M k → k < W.heap.size
def MailsAt (W : World) (vm : Value) (ms : List Mail) (M : Nat → Prop) : Prop := ∃ vs, MailsV W vm ms vs M

theorem MailsAt.nil (W : World) : MailsAt W (.slice none 0 0) [] (fun _ => False) := by
  refine ⟨[], rfl, World.ownsRow_nil W 8 35 3, ?_, ?_, ?_, ?_⟩
  · intro j m v h _; simp at h
  · intro k h; cases h
  · intro v h; simp at h
  · intro k h; exact False.elim h
theorem MailsAt.slice {W : World} {vm : Value} {ms : List Mail} {M : Nat → Prop} (h : MailsAt W vm ms M) : ∃ a c, vm = .slice a ms.length c := by
  obtain ⟨vs, _, ho, _⟩ := h
  rcases ho.2 with ⟨rfl, h0⟩ | ⟨g, cap, cur, rfl, _⟩
  · exact ⟨none, 0, by rw [h0]⟩
  · exact ⟨_, cap, rfl⟩
theorem MailsAt.frame {S : Nat → Prop} {W W' : World} {vm : Value} {ms : List Mail} {M : Nat → Prop} (h : MailsAt W vm ms M) (hk : Kept S W W') (hn : ∀ k, M k → ¬ S k) : MailsAt W' vm ms M := by
  obtain ⟨vs, hl, ho, hr, h1, h2, h3⟩ := h
  refine ⟨vs, hl, ⟨ho.1, ?_⟩, fun j m v hm hv => (hr j m v hm hv).kept hk fun k e => hn k (h2 v (List.mem_of_getElem? hv) k e), h1, h2, fun k q => Nat.lt_of_lt_of_le (h3 k q) hk.size⟩
  rcases ho.2 with q | ⟨g, cap, cur, hv, hb, hg, rest⟩
  · exact .inl q
  · refine .inr ⟨g, cap, cur, hv, hb, (hk.block g (Array.getElem?_eq_some_iff.1 hg).1 (hn g (h1 g (by rw [hv]; rfl)))).trans hg, rest⟩
theorem MailsAt.below {W W' : World} {vm : Value} {ms : List Mail} {M : Nat → Prop} (h : MailsAt W vm ms M) (hk : Below W.heap.size W W') : MailsAt W' vm ms M := h.frame (S := NoBlk) (Kept.of_below hk) fun _ _ h => h
/-- One message more. -/
theorem MailsV.append {W W' : World} {vm v' v2 : Value} {ms : List Mail} {vs : List Value} {M : Nat → Prop} (h : MailsV W vm ms vs M) (m : Mail) (hv : RowAt W 9 v2 (strsV m.2.1))
    (ho : W'.ownsRow 8 35 3 v' (ms.length + 1) (cellsM ms vs ++ [S m.1, v2, S m.2.2])) (hg : W.grownBy W' vm.ownBlock) (hb : ∀ k, v'.ownBlock = some k → vm.ownBlock = some k ∨ W.heap.size ≤ k) :
    MailsAt W' v' (ms ++ [m]) (fun k => M k ∨ v2.ownBlock = some k ∨ (W.heap.size ≤ k ∧ k < W'.heap.size)) := by
  obtain ⟨hl, ho0, hr, h1, h2, h3⟩ := h
  have keep : ∀ (v : Value) (l : List Bs), RowAt W 9 v (strsV l) → RowAt W' 9 v (strsV l) := by
    intro v l hq
    refine hq.heap fun k e => hg.block k (hq.lt k e).2 fun e2 => ?_
    obtain ⟨c1, hc1⟩ := hq.kind k e
    rcases ho0.2 with ⟨rfl, _⟩ | ⟨g, cap, cur, rfl, _, hgc, _⟩
    · cases e2
    · simp [Value.ownBlock] at e2
      subst e2
      rw [hc1] at hgc
      simp at hgc
  have hsz := hg.size
  refine ⟨vs ++ [v2], by simp [hl], ?_, ?_, fun k e => ?_, fun v hm k e => ?_, fun k q => ?_⟩
  · rw [cellsM_append ms vs m v2 hl, List.length_append]; exact ho
  · intro j m' v hm hv'
    by_cases hj : j < ms.length
    · rw [List.getElem?_append_left hj] at hm
      rw [List.getElem?_append_left (by omega)] at hv'
      exact keep _ _ (hr j m' v hm hv')
    · rw [List.getElem?_append_right (by omega)] at hm
      rw [List.getElem?_append_right (by omega)] at hv'
      obtain rfl : j = ms.length := by
        have := (List.getElem?_eq_some_iff.1 hm).1
        simp at this
        omega
      simp at hm
      rw [hl] at hv'
      simp at hv'
      subst hm
      subst hv'
      exact keep _ _ hv
  · rcases hb k e with q | q
    · exact .inl (h1 k q)
    · refine .inr (.inr ⟨q, ?_⟩)
      rcases ho.2 with ⟨rfl, _⟩ | ⟨g, cap, cur, rfl, _, hgc, _⟩
      · cases e
      · simp [Value.ownBlock] at e; subst e; exact (Array.getElem?_eq_some_iff.1 hgc).1
  · rcases List.mem_append.1 hm with q | q
    · exact .inl (h2 v q k e)
    · simp at q; subst q; exact .inr (.inl e)
  · rcases q with q | q | q
    · have := h3 k q; omega
    · have := (hv.lt k q).2; omega
    · exact q.2
end Go.Proofs.YtapanjfheddfnaaGreatDoor
