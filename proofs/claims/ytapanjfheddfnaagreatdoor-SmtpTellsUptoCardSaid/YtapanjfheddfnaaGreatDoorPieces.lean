/- A session over chunks, line for line. No program here. -/
import Derived.Test.YtapanjfheddfnaaGreatDoorWhole
import Derived.Test.YtapanjfheddfnaaGreatDoorChunks
namespace Go.Proofs.YtapanjfheddfnaaGreatDoor

/-- One line: nothing once the session is over; its reply, and, where a message waits then, the message and the reply to its answer. -/
def one (an : List Int) (x : Bs × List Mail × Sess) (l : Bs) : Bs × List Mail × Sess :=
  if x.2.2.over then x else
  if (turnS x.2.2 l).2.waits then (x.1 ++ (turnS x.2.2 l).1 ++ (answerS (turnS x.2.2 l).2 (an.getD x.2.1.length 0)).1, x.2.1 ++ [mailE (turnS x.2.2 l).2], (answerS (turnS x.2.2 l).2 (an.getD x.2.1.length 0)).2)
  else (x.1 ++ (turnS x.2.2 l).1, x.2.1, (turnS x.2.2 l).2)
end Go.Proofs.YtapanjfheddfnaaGreatDoor
