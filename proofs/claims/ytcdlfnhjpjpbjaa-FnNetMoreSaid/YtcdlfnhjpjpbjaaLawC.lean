/- What a law leaves. -/
import Derived.Test.YtcdlfnhjpjpbjaaBase
namespace Go.Proofs.Ytcdlfnhjpjpbjaa
open Go Go.RowKit

def LawC (w : World) (e : Ending) (w' : World) : Prop := e = .returned (.bool true) ∧ Below w.heap.size w w'
end Go.Proofs.Ytcdlfnhjpjpbjaa
