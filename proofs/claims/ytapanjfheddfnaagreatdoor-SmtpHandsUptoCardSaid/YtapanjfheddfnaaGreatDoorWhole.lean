/- What whole and drained compute. No program here. -/
import Derived.Test.YtapanjfheddfnaaGreatDoorFeed
import Derived.Test.YtapanjfheddfnaaGreatDoorApi
namespace Go.Proofs.YtapanjfheddfnaaGreatDoor

/-- A message: its sender, its recipients, its bytes. -/
abbrev Mail := Bs × List Bs × Bs
def mailE (s : Sess) : Mail := if s.waits then (s.sender.getD [], s.rcp, s.body.getD []) else ([], [], [])
/-- Each message that waits is taken and answered, the next lines are run. -/
def drainF : Nat → Sess → Bs → List Mail → List Int → Bs × List Mail × Sess
  | 0, s, out, ms, _ => (out, ms, s)
  | n + 1, s, out, ms, an =>
    if s.waits then drainF n (feedS (answerS s (an.getD ms.length 0)).2 []).2 (out ++ (answerS s (an.getD ms.length 0)).1 ++ (feedS (answerS s (an.getD ms.length 0)).2 []).1) (ms ++ [mailE s]) an
    else (out, ms, s)
/-- A session over chunks. -/
def overF : List Bs → Sess → Bs → List Mail → List Int → Bs × List Mail × Sess
  | [], s, out, ms, _ => (out, ms, s)
  | c :: cs, s, out, ms, an => overF cs (drainF 7000 (feedS s c).2 (out ++ (feedS s c).1) ms an).2.2 (drainF 7000 (feedS s c).2 (out ++ (feedS s c).1) ms an).1 (drainF 7000 (feedS s c).2 (out ++ (feedS s c).1) ms an).2.1 an
def wholeL (most : Int) (l : List Bs) (an : List Int) : Bs × List Mail × Sess := overF l (newS most) [] [] an
end Go.Proofs.YtapanjfheddfnaaGreatDoor
