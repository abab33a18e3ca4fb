/- Small laws of our own for the walks: a map literal of constants, and facts on blocks. They speak of no program. -/
import Derived.Below
import Derived.OwnWalk
import Derived.WalkKit
import Derived.KernelRfl
import Derived.RowKit3
import Derived.Lib.Hide
import Derived.Maps.Own
import Derived.Deep.Draws
namespace Go.Proofs.YtapanjfheddfnaaGreatDoor
open Go.RowKit

/-- A key that is a whole number or a string passes the key's check. -/
theorem checkKey_plain {P : Program} {k : TypeId} {d : TypeDesc} (hk : P.underlying k = some d) (hd : (∃ q, d = .int q) ∨ d = .string) (v : Value) (em : Bool) (n : Nat) (w : World) :
    (Instr.checkKey em (n + 1) k v).run P w = .ok () w := by
  rcases hd with ⟨q, rfl⟩ | rfl
  · simp [Instr.checkKey, run_underlying hk]
  · simp [Instr.checkKey, run_underlying hk]

/-- 'm[k] = v' of a map literal, the map being the heap's last block, the key not yet there. -/
theorem wpList_insert_last {P : Program} (w0 : World) {ops : Array Oper} {rest : List Oper} {o : Oper} {a : Act} {Q : Exit → Act → World → Prop}
    (hg : o.guard = none) (m x v : Operand) (t : TypeId) (hop : o.op = Op.insert t m x v) (k e : TypeId) (ht : P.underlying t = some (.map k e))
    (d : TypeDesc) (hk : P.underlying k = some d) (hd : (∃ q, d = .int q) ∨ d = .string) (es : Array MapEntry) (clock : Nat) (key val : Value)
    (hm : a.eval m = .map (some w0.heap.size)) (hx : a.eval x = key) (hv : a.eval v = val) (hf : Instr.findNow d key es.toList 0 = some none)
    (hK : wpList P ops Q rest (a.put o.dst undef) (w0.alloc (.map (es.push { key := key, val := val, born := clock }) (clock + 1)))) :
    wpList P ops Q (o :: rest) a (w0.alloc (.map es clock)) := by
  refine wpList_plain hg fun K' hK' => ?_
  have hb : (w0.alloc (.map es clock)).heap[w0.heap.size]? = some (.map es clock) := by show (w0.heap.push _)[w0.heap.size]? = _; simp
  have hs : { w0.alloc (.map es clock) with heap := (w0.alloc (.map es clock)).heap.setIfInBounds w0.heap.size (.map (es.push { key := key, val := val, born := clock }) (clock + 1)) } = w0.alloc (.map (es.push { key := key, val := val, born := clock }) (clock + 1)) := by
    have : (w0.heap.push (Obj.map es clock)).setIfInBounds w0.heap.size (.map (es.push { key := key, val := val, born := clock }) (clock + 1)) = w0.heap.push (.map (es.push { key := key, val := val, born := clock }) (clock + 1)) := by
      apply Array.ext
      · simp
      · intro i h1 h2
        rw [Array.getElem_setIfInBounds]
        split
        · rename_i h; subst h; simp
        · rename_i h; simp at h1; rw [Array.getElem_push, Array.getElem_push, dif_pos (by omega), dif_pos (by omega)]
        · simpa using h1
    show World.mk _ _ _ _ _ = World.mk _ _ _ _ _
    rw [← this]
    rfl
  have hrun : (Instr.mapUpdate t (.map (some w0.heap.size)) key val).run P (w0.alloc (.map es clock)) = .ok () (w0.alloc (.map (es.push { key := key, val := val, born := clock }) (clock + 1))) := by
    have hfk : (Instr.findKey k key es.toList).run P (w0.alloc (.map es clock)) = .ok none (w0.alloc (.map es clock)) := by simp [Instr.findKey, run_underlying hk, hf]
    have hck : (Instr.checkKey false 10000 k key).run P (w0.alloc (.map es clock)) = .ok () (w0.alloc (.map es clock)) := checkKey_plain hk hd key false 9999 _
    rw [← hs]
    simp [Instr.mapUpdate, run_underlying ht, MapKept.run_getObj_map hb, hck, hfk, MapKept.run_setObj_map _ hb, Result.andThen]
  unfold Oper.wp
  simp [execOp, hop, hm, hx, hv, hrun, Result.andThen]
  exact hK' _ _ hK

/-- 'm[k]' in a map whose block is known whole. -/
theorem run_lookup_known {P : Program} {w : World} {t k e : TypeId} (ht : P.underlying t = some (.map k e)) {d : TypeDesc} (hk : P.underlying k = some d) (hd : (∃ q, d = .int q) ∨ d = .string) {b : Nat} {es : Array MapEntry} {clock : Nat}
    (hb : w.heap[b]? = some (.map es clock)) (key : Value) {i : Nat} {v : Value} (hf : Instr.findNow d key es.toList 0 = some (some (i, v))) :
    (Instr.lookup t (.map (some b)) key false).run P w = .ok v w := by
  have hfk : (Instr.findKey k key es.toList).run P w = .ok (some (i, v)) w := by simp [Instr.findKey, run_underlying hk, hf]
  have hck : (Instr.checkKey es.isEmpty 10000 k key).run P w = .ok () w := checkKey_plain hk hd key _ 9999 _
  simp [Instr.lookup, run_underlying ht, MapKept.run_getObj_map hb, hck, hfk, Result.andThen]
theorem run_lookup_known_not {P : Program} {w : World} {t k e : TypeId} (ht : P.underlying t = some (.map k e)) {d : TypeDesc} (hk : P.underlying k = some d) (hd : (∃ q, d = .int q) ∨ d = .string) {b : Nat} {es : Array MapEntry} {clock : Nat}
    (hb : w.heap[b]? = some (.map es clock)) (key : Value) (hf : Instr.findNow d key es.toList 0 = some none) {z : Value} (hz : (zeroValue e).run P w = .ok z w) :
    (Instr.lookup t (.map (some b)) key false).run P w = .ok z w := by
  have hfk : (Instr.findKey k key es.toList).run P w = .ok none w := by simp [Instr.findKey, run_underlying hk, hf]
  have hck : (Instr.checkKey es.isEmpty 10000 k key).run P w = .ok () w := checkKey_plain hk hd key _ 9999 _
  simp [Instr.lookup, run_underlying ht, MapKept.run_getObj_map hb, hck, hfk, hz, Result.andThen]
end Go.Proofs.YtapanjfheddfnaaGreatDoor
