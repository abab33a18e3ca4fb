/- What whole and drained compute. No program here. -/
import Derived.Test.YtapanjfheddfnaaGreatDoorFeed
import Derived.Test.YtapanjfheddfnaaGreatDoorApi
namespace Go.Proofs.YtapanjfheddfnaaGreatDoor

/-- A message: its sender, its recipients, its bytes. -/
abbrev Mail := Bs × List Bs × Bs
def mailE (s : Sess) : Mail := if s.waits then (s.sender.getD [], s.rcp, s.body.getD []) else ([], [], [])
end Go.Proofs.YtapanjfheddfnaaGreatDoor
