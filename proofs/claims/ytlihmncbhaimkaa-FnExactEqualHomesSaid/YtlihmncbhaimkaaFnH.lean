/- Printed by wip/gen/shallow.py: the hints' table. -/
import Derived.Test.YtlihmncbhaimkaaAmWp
import Derived.Test.YtlihmncbhaimkaaProg
namespace Go.Proofs.Ytlihmncbhaimkaa.Am
open Go
/-- A table's entry. -/
def lk {α : Type} : List (Nat × α) → Nat → Option α
  | [], _ => none
  | p :: r, k => bif Nat.beq p.1 k then some p.2 else lk r k
def h3 : Nat → Option (List Nat) := lk []
def h4 : Nat → Option (List Nat) := lk []
def h5 : Nat → Option (List Nat) := lk [(8, [4, 5])]
def h6 : Nat → Option (List Nat) := lk [(6, [4])]
def h7 : Nat → Option (List Nat) := lk []
def h8 : Nat → Option (List Nat) := lk [(8, [4, 5])]
def h9 : Nat → Option (List Nat) := lk []
def h10 : Nat → Option (List Nat) := lk [(8, [4, 13])]
def h11 : Nat → Option (List Nat) := lk []
def tab : List (Nat × (Nat → Option (List Nat))) := [(3, h3), (4, h4), (5, h5), (6, h6), (7, h7), (8, h8), (9, h9), (10, h10), (11, h11)]
def Hn : Hints := fun f => ((lk tab f).getD fun _ => none)
noncomputable abbrev K : Oracle := call Try.prog Hn fun _ => none
end Go.Proofs.Ytlihmncbhaimkaa.Am
