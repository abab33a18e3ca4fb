/- The tables that the row lists, as the contracts ask for them; a world that holds them. -/
import Derived.Test.YtapanjfheddfnaaGreatDoorRows
import Derived.Test.YtapanjfheddfnaaGreatDoorBase
import Derived.Lib.LaidU8
import Derived.LaidLaws
import Derived.ProofKit
import Derived.Shelf.Vars
namespace Go.Proofs.YtapanjfheddfnaaGreatDoor
open Go.RowKit Go.Lib Go.ChangeShapes Go.WideShapes Go.ChangeAt

theorem own : ownKnob Tryz.prog.godebug = none := by kernel_rfl
theorem laidOut : laidOutB Tryz.prog = true := by kernel_rfl
abbrev LL : List (String × DataW Unit) := Rows.smtpPiecesUptoRow.laid
theorem met {W : World} (h : laidMetH Tryz.prog LL W) : laidMet Tryz.prog LL W := h
theorem gE0 : Tryz.prog.globalNamed "strconv.ErrSyntax" = some 0 := by kernel_rfl
theorem gE1 : Tryz.prog.globalNamed "strconv.ErrRange" = some 1 := by kernel_rfl
theorem iface_global {W : World} {n nm : String} {g t : Nat} {ms : Array (String × TypeId)} {d : DataW Unit} (hr : VarReads Tryz.prog W n (.iface nm d)) (hg : Tryz.prog.globalNamed n = some g) (hty : (Tryz.prog.globals[g]?).map (·.type) = some t)
    (hi : Tryz.prog.underlying t = some (.interface ms)) : ∃ te pe, W.cell? ⟨g, 0, none⟩ = some (.iface te pe) := by
  obtain ⟨g', t', cs, fuel, p, hg', hty', hvar, hd⟩ := hr
  obtain rfl := Option.some.inj (hg.symm.trans hg')
  obtain rfl := Option.some.inj (hty.symm.trans hty')
  obtain ⟨f1, u, v, hcs, _⟩ := iface_of_trod hi hd
  have := World.var?_cell hg hvar 0
  rw [this, ← Array.getElem?_toList, hcs]
  exact ⟨u, v, rfl⟩
theorem u8extra : U8Extra Tryz.prog Tryz.lays160_ren := ⟨by kernel_rfl, by kernel_rfl, by kernel_rfl, by kernel_rfl, by kernel_rfl, by kernel_rfl, by kernel_rfl⟩
set_option maxRecDepth 100000 in
theorem glob_of {W : World} (h : laidMetH Tryz.prog LL W) (hsh : W.ShapedOpen Tryz.prog) : Glob W := by
  have hm := met h
  have r0 := laidMet.reads hm (n := "strconv.ErrSyntax") (d := Rows.laid_strconv_ErrSyntax) (by simp [LL, Rows.smtpPiecesUptoRow])
  have r1 := laidMet.reads hm (n := "strconv.ErrRange") (d := Rows.laid_strconv_ErrRange) (by simp [LL, Rows.smtpPiecesUptoRow])
  have r3 := laidMet.reads hm (n := "internal/strconv.uint64pow10") (d := Rows.laid_internal_strconv_uint64pow10) (by simp [LL, Rows.smtpPiecesUptoRow])
  have r4 := laidMet.reads hm (n := "unicode/utf8.first") (d := Rows.laid_unicode_utf8_first) (by simp [LL, Rows.smtpPiecesUptoRow])
  have r5 := laidMet.reads hm (n := "unicode/utf8.acceptRanges") (d := Rows.laid_unicode_utf8_acceptRanges) (by simp [LL, Rows.smtpPiecesUptoRow])
  rw [show Rows.laid_internal_strconv_uint64pow10 = tabData .u64 pow10Tab by kernel_rfl] at r3
  rw [show Rows.laid_unicode_utf8_first = firstData by kernel_rfl] at r4
  rw [show Rows.laid_unicode_utf8_acceptRanges = acceptData by kernel_rfl] at r5
  refine ⟨iface_global r0 gE0 (by kernel_rfl) Tryz.underlying71, iface_global r1 gE1 (by kernel_rfl) Tryz.underlying71, ?_, ?_, ?_, ?_⟩
  · exact Go.Proofs.cell_of_shapedOpen_int (zero := #[.int .i64 0]) (t := 3) hsh (of_decide_eq_true (by kernel_rfl)) (by kernel_rfl) rfl (by kernel_rfl) (by kernel_rfl) Tryz.underlying3
  · obtain ⟨g, t, cs, fuel, p, hg, hty, hvar, hd⟩ := r3
    obtain rfl := Option.some.inj (g_p10.symm.trans hg)
    obtain rfl := Option.some.inj ((show (Tryz.prog.globals[3]?).map (·.type) = some 157 by kernel_rfl).symm.trans hty)
    have hcs := cells_of_tab (zs := pow10Tab) Tryz.underlying157 Tryz.underlying135 (by kernel_rfl) (by kernel_rfl) hd
    unfold TabIs
    rw [hvar, ← hcs]
  · exact utf8Tabs_of_reads (ρ := Tryz.lays160_ren) { Tryz.lays160 with } u8extra r4 r5
  · obtain ⟨cs, hh, _⟩ := hsh.1 7 (Array.replicate 64 (.int .u8 0)) 170 (of_decide_eq_true (by kernel_rfl)) (by kernel_rfl)
    have := (Array.getElem?_eq_some_iff.1 hh).1
    omega
def numsOf (d : DataW Unit) : Array Value := match d with | .agg l => (l.map fun (x : DataW Unit) => match x with | .lit (.int k z) => Value.int k z | _ => undef).toArray | _ => #[]
/-- A WORLD FOR THE WITNESS: the settled one; the tables hold what their initialisers lay; two blocks more for the two errors. -/
noncomputable def laidWorld (os : Os) : World :=
  let N := (World.settled Tryz.prog os).heap.size
  let w0 := World.holding Tryz.prog os ⟨#[.cells #[.string ⟨#[105, 110, 118, 97, 108, 105, 100, 32, 115, 121, 110, 116, 97, 120]⟩] 155, .cells #[.string ⟨#[118, 97, 108, 117, 101, 32, 111, 117, 116, 32, 111, 102, 32, 114, 97, 110, 103, 101]⟩] 155], #[], []⟩
  let put (h : Array Obj) (g : Nat) (cs : Array Value) : Array Obj := h.modify g fun
    | .cells _ t frozen => .cells cs t frozen
    | o => o
  let h0 := put w0.heap 0 #[.iface 153 (.pointer (some ⟨N, 0, none⟩))]
  let h1 := put h0 1 #[.iface 153 (.pointer (some ⟨N + 1, 0, none⟩))]
  let h3 := put h1 3 (pow10Tab.map fun z => Value.int .u64 z).toArray
  let h4 := put h3 4 (firstTab.map fun z => Value.int .u8 z).toArray
  let h5 := put h4 5 ((List.range 16).flatMap fun i => [Value.int .u8 (accLo i), Value.int .u8 (accHi i)]).toArray
  let h6 := put h5 6 (numsOf Rows.laid_math_bits_deBruijn32tab)
  let h7 := put h6 7 (numsOf Rows.laid_math_bits_deBruijn64tab)
  { w0 with heap := h7 }
set_option maxRecDepth 100000 in
theorem laid_met4 (os : Os) : laidMet Tryz.prog LL ((laidWorld os).forCall (fun _ _ => 0) ⟨#[], #[.int .i64 0, .slice none 0 0, .int .i64 0, .slice none 0 0], []⟩).memory :=
  laidMet_of_run' 10 (by kernel_rfl) (by kernel_rfl)
end Go.Proofs.YtapanjfheddfnaaGreatDoor
