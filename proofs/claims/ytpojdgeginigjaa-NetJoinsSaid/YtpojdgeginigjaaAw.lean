/- The chapters' examples, which all laws ask: those that are taken as known. -/
import Derived.Test.YtpojdgeginigjaaAr30
import Derived.Test.YtpojdgeginigjaaProg
namespace Go.Proofs.Ytpojdgeginigjaa
open Go Go.Ar
def awk : List Nat := [26, 50, 39]
noncomputable def E : Env := envL Try.prog awk
end Go.Proofs.Ytpojdgeginigjaa
