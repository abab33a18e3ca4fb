/- SmtpHands, in the second form, with its card: for every input of bulk at most 1048576 the law returns true and its arguments read as they read before. The card ties the tables that the row lists to the program's text. -/
import Derived.Test.YtapanjfheddfnaaGreatDoorCards
import Derived.Test.YtapanjfheddfnaaGreatDoorTie
import Derived.Test.YtapanjfheddfnaaGreatDoorOpened
import Derived.Test.YtapanjfheddfnaaGreatDoorLaw7
import Derived.ChangeMaps5
import Derived.Deep.DeepHandedRow
import Derived.Deep.DeepWitnessRowRef
namespace Go.Proofs.YtapanjfheddfnaaGreatDoor.hands
open Go.ChangeShapes Go.WideShapes Go.ChangeAt Go.RowKit

theorem cells53 : Tryz.prog.cellsOf 53 = 1 := by kernel_rfl
theorem open_shorts {H : Type} {enc : TypeId × Value → H} {W : World} {a0 : Option Addr} {len cap fuel : Nat} {x : DataW H × List MemPlace} (hf : DataW.trod enc Tryz.prog W 0 (fun _ => true) true fuel 51 [.slice a0 len cap] = some x) :
    ∃ l : List Nat, ShortsAt W (.slice a0 len cap) l ∧ l.length ≤ Rows.uptoBulk x.1 := by
  rcases open_ints Tryz.underlying51 Tryz.underlying53 cells53 hf with ⟨hcs, hx⟩ | ⟨a, len', cap', zs, hcs, _, hl, hm, hz, hx, hcell, hwf⟩
  · simp at hcs
    obtain ⟨rfl, rfl, rfl⟩ := hcs
    exact ⟨[], ⟨none, 0, rfl, by simp, fun h => absurd rfl h⟩, by simp⟩
  · simp at hcs
    obtain ⟨rfl, rfl, rfl⟩ := hcs
    subst hx
    simp only [if_true] at hz
    obtain ⟨b, off, spot⟩ := a
    have hlen : ((zs.take len).map Int.toNat).length = len := by simp; omega
    have h16 : ∀ n ∈ zs, 0 ≤ n ∧ n < 65536 := by
      intro n hn
      have := hwf n hn
      simp only [Lit.wf, Bool.and_eq_true, decide_eq_true_eq] at this
      have e1 : IntKind.u16.min = 0 := rfl
      have e2 : IntKind.u16.max = 65535 := rfl
      omega
    refine ⟨(zs.take len).map Int.toNat, ⟨some ⟨b, off, spot⟩, cap, by rw [hlen], fun n hn => ?_, fun hne => ?_⟩, ?_⟩
    · obtain ⟨z, hz1, rfl⟩ := List.mem_map.1 hn
      have := h16 z (List.take_subset _ _ hz1)
      omega
    · have h0 : 0 < len := by
        rcases Nat.eq_zero_or_pos len with q | q
        · subst q; simp at hne
        · exact q
      have hspot : spot = none := by simpa [Addr.add] using World.cell?_spot (hcell 0 (by omega))
      subst hspot
      refine ⟨b, off, rfl, fun j X hX => ?_⟩
      have hj : j < len := by
        have := (List.getElem?_eq_some_iff.1 hX).1
        rw [hlen] at this
        exact this
      have := hcell j (by omega)
      rw [Addr.add_lit] at this
      rw [this]
      simp only [List.getElem?_map, List.getElem?_take_of_lt hj] at hX
      obtain ⟨z, hzz, rfl⟩ := Option.map_eq_some_iff.1 hX
      have hb := h16 z (List.mem_of_getElem? hzz)
      simp [List.getD, hzz]
      omega
    · have e1 := bulk_lits (H := H) .u16 (zs.take len)
      simp only [Rows.uptoBulk]
      simp only [List.length_map]
      omega

theorem reads (os : Os) {H : Type} (enc : TypeId × Value → H) : ∃ places, DataW.whole enc Tryz.prog ((laidWorld os).forCall (fun _ _ => 0) ⟨#[], #[.int .i64 0, .string ⟨#[]⟩, .slice none 0 0, .int .i64 0], []⟩).memory Tryz.f7.params.toList Rows.smtpHandsSpec.vars false #[Value.int .i64 0, .string ⟨#[]⟩, .slice none 0 0, .int .i64 0].toList 8 = some ([.lit (.int .i64 0), .lit (.string []), .nil, .lit (.int .i64 0)], [], places) :=
  ⟨[], by kernel_rfl⟩

set_option maxRecDepth 100000 in
theorem contract (H : Type) (enc : TypeId × Value → H) (W : World) (base : Nat) (args : Array Value) (ds gs : List (DataW H)) (before : List MemPlace)
    (hval : ∀ (j : Nat) t v, Tryz.f7.params[j]? = some t → args[j]? = some v → Value.okWide Tryz.prog W .any base t v)
    (hW : DataW.Whole enc Tryz.prog Tryz.f7.params.toList Rows.smtpHandsSpec.vars false W args.toList ds gs before) (hb : Rows.uptoBulkAll (ds ++ gs) ≤ 1048576) (hL : laidMetH Tryz.prog LL W) (hsh : W.ShapedOpen Tryz.prog) :
    Calls Tryz.prog 7 args W fun e W' => ∃ v, e = .returned v ∧ Rows.smtpHandsSpec.post enc Tryz.prog Tryz.f7 false true false false W args v W' := by
  have hW' := hW
  obtain ⟨p, q, hA0, hV0, rfl, _, _⟩ := hW
  have hA : DataW.TrodAll enc Tryz.prog W 0 (fun _ => true) true Tryz.f7.params.toList args.toList ds p := hA0
  rw [Tryz.params7] at hA hval
  obtain ⟨v0, v1, v2, v3, d0, d1, d2, d3, p0, p1, p2, p3, rfl, rfl, rfl, h0, h1, h2, h3⟩ := trodAll_four hA
  obtain ⟨rfl, rfl⟩ := trodVars_none hV0
  obtain ⟨m, rfl, rfl, rfl, hwm⟩ := open_int Tryz.underlying3 (hval 0 3 v0 rfl rfl) h0
  obtain ⟨x, rfl, rfl, rfl, hwx⟩ := ChangeMaps.open_string Tryz.underlying9 (hval 1 9 v1 rfl rfl) h1
  obtain ⟨a2, n2, c2, rfl⟩ := okWide_slice Tryz.underlying51 (hval 2 51 v2 rfl rfl)
  obtain ⟨y, rfl, rfl, rfl, hwy⟩ := open_int Tryz.underlying3 (hval 3 3 v3 rfl rfl) h3
  have h2k := h2
  obtain ⟨fuel2, hf2⟩ := h2
  clear hA0 hV0
  simp only [List.append_nil] at hW' hb
  obtain ⟨an, han, hba⟩ := open_shorts hf2
  dsimp only at hba
  simp only [Rows.uptoBulkAll, List.cons_append, List.nil_append] at hb
  have hbx : Rows.uptoBulk (DataW.lit (H := H) (Lit.string x.data.toList)) = x.data.toList.length + 1 := rfl
  have hlt : ∀ x ∈ p2, x.block < W.heap.size := fun x hx => by simpa using hW'.lt x (by simpa using hx)
  have G := glob_of hL hsh
  have hwalk := law7_calls W G m x.data.toList _ an y han (by omega) (by omega)
  rw [S_data] at hwalk
  refine hwalk.mono fun e W' ⟨he, bel⟩ => ?_
  subst he
  have e1 : Rows.smtpHandsSpec.fn H ([.lit (.int .i64 m), .lit (.string x.data.toList), d2, .lit (.int .i64 y)] ++ []) = { results := [.lit (.bool true)], args := [.lit (.int .i64 m), .lit (.string x.data.toList), d2, .lit (.int .i64 y)] } := rfl
  refine ⟨_, rfl, _, _, _, [], [] ++ ([] ++ (p2 ++ [])), [], hW', ?_, ?_, ?_, bel.frame _, fun h => by cases h⟩
  · rw [e1]; exact trodAll_mk1 (shut_bool Tryz.underlying4 true)
  · rw [e1]
    exact trodAll_mk4 (shut_int Tryz.underlying3 hwm) (ChangeMaps.shut_string Tryz.underlying9 hwx)
      (Below.trod laidOut (by kernel_rfl) (of_decide_eq_true (by kernel_rfl)) h2k bel (fun x hx => hlt x (by simp [hx]))) (shut_int Tryz.underlying3 hwy)
  · rw [e1]; rfl

set_option maxRecDepth 100000 in
theorem liftedUpto (os : Os) (started : os.Started) (H : Type) (enc : TypeId × Value → H) (F : Stop.Interp) :
    ReturnsInHanded {} Tryz.checked os 7 .any ((Rows.OpenSpec.upto Rows.smtpHandsSpec).preRow enc Tryz.prog Tryz.f7 Rows.smtpHandsUptoRow.domain false Rows.smtpHandsUptoRow.laid) (((Rows.OpenSpec.upto Rows.smtpHandsSpec).at F).post enc Tryz.prog Tryz.f7 false true false false) := by
  obtain ⟨places, hx⟩ := reads os enc
  refine returnsInHanded_of_row (C := Tryz.checked) (s := Rows.OpenSpec.upto Rows.smtpHandsSpec) own started (by kernel_rfl) Tryz.func7
    (witness_row_atRef (enc := enc) (C := Tryz.checked) false (laidWorld os) #[.int .i64 0, .string ⟨#[]⟩, .slice none 0 0, .int .i64 0] rfl (by kernel_rfl) (by kernel_rfl) (by kernel_rfl)
      (OpenSpec.preRow_of_cond 8 hx (by kernel_rfl) (fun k hk => by cases hk; kernel_rfl) (by kernel_rfl) (laid_met4 os))) ?_
  intro W base args ds gs before hval hW _ hcond _ hL hsh _
  have hb : Rows.uptoBulkAll (ds ++ gs) ≤ 1048576 := by
    have := hcond _ rfl
    simpa [Rows.uptoSmall] using this
  exact contract H enc W base args ds gs before hval hW hb hL hsh

theorem saidUpto : Rows.SmtpHandsUptoSaid :=
  OpenClaim.holds_of_cond 7 Tryz.f7 rfl rfl rfl rfl rfl rfl rfl ⟨rfl, rfl, rfl, rfl, rfl⟩ rfl rfl rfl rfl rfl (by kernel_rfl) Tryz.func7 (by kernel_rfl)
    (of_decide_eq_true (by kernel_rfl)) (by unfold Func.isWrapper; first | (rw [if_pos (by decide +kernel)]; kernel_rfl) | (rw [if_neg (by decide +kernel)]; exact ⟨rfl, rfl⟩))
    (fun os started H enc _ F => by rw [OpenClaim.pre_eq_preRow]; exact liftedUpto os started H enc F)

theorem plain (f : FuncId) (fn : Func) (hf : Tryz.pinned.checked.prog.funcNamed "pouch/pouchlaw22.SmtpHands" = some f) (hfn : Tryz.pinned.checked.prog.funcs[f]? = some fn) :
    true = Tryz.pinned.checked.prog.looks [] ∧ ∀ (j : Nat) t, fn.params[j]? = some t → Tryz.pinned.checked.prog.wantsStandIn t = false := by
  obtain rfl : f = 7 := Option.some.inj ((show Tryz.prog.funcNamed "pouch/pouchlaw22.SmtpHands" = some 7 by kernel_rfl).symm.trans hf) |>.symm
  obtain rfl : fn = Tryz.f7 := (Option.some.inj (Tryz.func7.symm.trans hfn)).symm
  refine ⟨by kernel_rfl, fun j t ht => ?_⟩
  rw [Tryz.params7] at ht
  have hm := Array.mem_of_getElem? ht
  simp only [List.mem_toArray, List.mem_cons, List.not_mem_nil, or_false] at hm
  rcases hm with rfl | rfl | rfl | rfl
  · exact (show Tryz.prog.wantsStandIn 3 = false by kernel_rfl)
  · exact (show Tryz.prog.wantsStandIn 9 = false by kernel_rfl)
  · exact (show Tryz.prog.wantsStandIn 51 = false by kernel_rfl)
  · exact (show Tryz.prog.wantsStandIn 3 = false by kernel_rfl)

theorem cardUpto : Rows.SmtpHandsUptoCardSaid :=
  Claim7.holds_tied_plain_at .later [] _ _ _ _ saidUpto (fun _ h => by cases h) (by kernel_rfl) (fun _ h => by cases h) smtpHandsUpto_row_tie rfl ⟨rfl, rfl⟩ (by kernel_rfl) rfl plain (by kernel_rfl)
end Go.Proofs.YtapanjfheddfnaaGreatDoor.hands
namespace Go.Proofs.YtapanjfheddfnaaGreatDoor
theorem smtpHands_proved : Rows.SmtpHandsUptoCardSaid := hands.cardUpto
end Go.Proofs.YtapanjfheddfnaaGreatDoor
