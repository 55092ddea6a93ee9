/- Small words over the loaded program. No conditions beyond those written in the theorems. -/
import Derived.Test.YtebjdfhaglgjiaaKmC
import Derived.Test.YtebjdfhaglgjiaaProg
import Derived.KernelRfl
namespace Go.Proofs
open Go Go.Conc Go.Km

def wgF (wb : Nat) (st sm : Int) : List Fact := [⟨⟨wb, 0, none⟩, .int .u64 st, true, some (106, 2)⟩, ⟨⟨wb, 1, none⟩, .int .u32 sm, true, some (106, 2)⟩]
def hh (l : List Nat) : Hint := { facts := l }
end Go.Proofs
