/- The walks of layer 4: is a note right? -/
import Derived.Test.YtombndhjoaaaiaaDoorNoteA
import Derived.Test.YtombndhjoaaaiaaDoorRowOps
import Derived.Deep.Cut
import Derived.Deep.CutRange
namespace Go.Proofs.YtombndhjoaaaiaaDoor
open Go.RowKit Go.Quad _root_.Quad _root_.Quad.Ink

end Go.Proofs.YtombndhjoaaaiaaDoor
