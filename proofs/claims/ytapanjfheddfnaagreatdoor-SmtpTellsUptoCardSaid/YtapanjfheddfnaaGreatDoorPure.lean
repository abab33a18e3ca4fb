/- What the text functions of package smtp compute, on lists of bytes. No program here. -/
import Derived.Lib.SlTrimSet
import Derived.Lib.IndexAny
import Derived.Lib.MapU
import Derived.Shelf.Strconv.Itoa3
import Derived.Lib.Strings
import Derived.Shelf.Strings.Cut
import Derived.Shelf.Strings.Search3
namespace Go.Proofs.YtapanjfheddfnaaGreatDoor
abbrev Bs := List UInt8


def blanks : Bs := [32, 9]
/-- Upper case, of a rune. -/
def grR (c : Int) : Int := if 97 ≤ c ∧ c ≤ 122 then c - 32 else c
def greatL (l : Bs) : Bs := Lib.mapD grR l
def cutL (s b : Bs) : Bs × Bool := if s.length < b.length then (s, false) else if greatL (s.take b.length) = b then (s.drop b.length, true) else (s, false)
def wordL (l : Bs) : Bs × Bs :=
  if 0 ≤ Lib.indexAny (Lib.trimS l blanks) blanks then
    ((Lib.trimS l blanks).take (Lib.indexAny (Lib.trimS l blanks) blanks).toNat, Lib.trimS ((Lib.trimS l blanks).drop (Lib.indexAny (Lib.trimS l blanks) blanks).toNat) blanks)
  else (Lib.trimS l blanks, [])
def mayL (a : Bs) : Bool := decide (2 < a.length) && decide (a.length ≤ 254) && Lib.contains (a.take (a.length - 1)).tail [64]
def pathC (c : UInt8) : Bool := 32 < c && c ≤ 126 && c != 60
/-- A keyword and a path: the address, the rest. -/
def pathL (s b : Bs) : Option (Bs × Bs) :=
  if (cutL s b).2 then
    if Lib.hasPrefix (Lib.trimLeftS (cutL s b).1 blanks) [60] then
      if (Lib.cut (Lib.trimPrefix (Lib.trimLeftS (cutL s b).1 blanks) [60]) [62]).2.2 then
        if (Lib.cut (Lib.trimPrefix (Lib.trimLeftS (cutL s b).1 blanks) [60]) [62]).1.all pathC then
          some ((Lib.cut (Lib.trimPrefix (Lib.trimLeftS (cutL s b).1 blanks) [60]) [62]).1, (Lib.cut (Lib.trimPrefix (Lib.trimLeftS (cutL s b).1 blanks) [60]) [62]).2.1)
        else none
      else none
    else none
  else none
/-- The text of a reply. -/
def sayL (c : Int) : Bs :=
  if c = 220 then [112, 111, 117, 99, 104, 32, 114, 101, 97, 100, 121] else
  if c = 221 then [66, 121, 101] else
  if c = 250 then [79, 75] else
  if c = 252 then [67, 97, 110, 110, 111, 116, 32, 118, 101, 114, 105, 102, 121, 32, 117, 115, 101, 114] else
  if c = 354 then [83, 116, 97, 114, 116, 32, 109, 97, 105, 108, 32, 105, 110, 112, 117, 116] else
  if c = 451 then [76, 111, 99, 97, 108, 32, 101, 114, 114, 111, 114] else
  if c = 452 then [73, 110, 115, 117, 102, 102, 105, 99, 105, 101, 110, 116, 32, 115, 116, 111, 114, 97, 103, 101] else
  if c = 500 then [83, 121, 110, 116, 97, 120, 32, 101, 114, 114, 111, 114] else
  if c = 501 then [83, 121, 110, 116, 97, 120, 32, 101, 114, 114, 111, 114, 32, 105, 110, 32, 112, 97, 114, 97, 109, 101, 116, 101, 114, 115] else
  if c = 503 then [66, 97, 100, 32, 115, 101, 113, 117, 101, 110, 99, 101, 32, 111, 102, 32, 99, 111, 109, 109, 97, 110, 100, 115] else
  if c = 552 then [77, 101, 115, 115, 97, 103, 101, 32, 115, 105, 122, 101, 32, 101, 120, 99, 101, 101, 100, 115, 32, 108, 105, 109, 105, 116] else
  if c = 554 then [84, 114, 97, 110, 115, 97, 99, 116, 105, 111, 110, 32, 102, 97, 105, 108, 101, 100] else
  []
def replyL (c : Int) : Bs := Lib.itoa c ++ [32] ++ sayL c ++ [13, 10]
end Go.Proofs.YtapanjfheddfnaaGreatDoor
