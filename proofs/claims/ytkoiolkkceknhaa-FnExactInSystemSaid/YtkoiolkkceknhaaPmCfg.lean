/- The settings for this seat's translation: which functions may write what their arguments lead to. -/
import Derived.Test.YtkoiolkkceknhaaPmLow
import Derived.Test.YtkoiolkkceknhaaChecked
namespace Go.PM
open Go.Proofs

def effs : List Nat := []
 ++ [31]
 ++ [49]
 ++ [42]
 ++ [43]
 ++ [32]
 ++ [33]
 ++ [108]
 ++ [105]
 ++ [80]
 ++ [99]
 ++ [109]
 ++ [110]
 ++ [113]
 ++ [116]

def cfg : Cfg := { prim := fun _ => none, eff := fun f => effs.contains f }
noncomputable def tab : Tab := tabOf Try.prog cfg

end Go.PM
