/- The document's first example goes so (lives), wherever it is asked. No condition. -/
import Derived.Test.YtlfckpmdmkccjaaBitsR
set_option maxRecDepth 100000
set_option linter.unusedVariables false
set_option linter.unusedSimpArgs false
namespace Go.Proofs.Ytlfckpmdmkccjaa.Bits
open Go.RowKit Go.Proofs.Ytlfckpmdmkccjaa.Lib Go.Proofs.Ytlfckpmdmkccjaa.Num

theorem tl_new (w : World) (T : TypeId) (hT : T ≠ 5) : Tl (w.alloc (.cells #[.slice none 0 0, .int .i64 0] T)) w.heap.size T 0 0 none :=
  ⟨.slice none 0 0, blk_new w _, own_nil _ _ _ _, rfl, by simp, hT⟩
end Go.Proofs.Ytlfckpmdmkccjaa.Bits
