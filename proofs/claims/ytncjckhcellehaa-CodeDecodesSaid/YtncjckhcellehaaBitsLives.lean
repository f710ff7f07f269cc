/- The document's first example goes so (lives), wherever it is asked. No condition. -/
import Derived.Test.YtncjckhcellehaaBitsR
set_option maxRecDepth 100000
set_option linter.unusedVariables false
set_option linter.unusedSimpArgs false
namespace Go.Proofs.Ytncjckhcellehaa.Bits
open Go.RowKit Go.Proofs.Ytncjckhcellehaa.Lib Go.Proofs.Ytncjckhcellehaa.Num

theorem tl_new (w : World) (T : TypeId) (hT : T ≠ 5) : Tl (w.alloc (.cells #[.slice none 0 0, .int .i64 0] T)) w.heap.size T 0 0 none :=
  ⟨.slice none 0 0, blk_new w _, own_nil _ _ _ _, rfl, by simp, hT⟩
theorem rd_new (w : World) : Rd (w.alloc (.cells #[.int .u64 0, .int .i64 0, .int .i64 0] 53)) w.heap.size 0 0 0 :=
  ⟨blk_new w _, by simp, by omega⟩

end Go.Proofs.Ytncjckhcellehaa.Bits
