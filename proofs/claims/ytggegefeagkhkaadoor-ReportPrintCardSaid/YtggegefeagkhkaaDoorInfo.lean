/- What the program's table says of the type string. -/
import Derived.Test.YtggegefeagkhkaaDoorRows
import Derived.WalkKit
namespace Go.Proofs.YtggegefeagkhkaaDoor
theorem info9 : (Tryd.prog.info? 9).map (fun i => (i.zero, i.size, i.bytes)) = some (some (.string ⟨#[]⟩), 1, 16) := by kernel_rfl
end Go.Proofs.YtggegefeagkhkaaDoor
