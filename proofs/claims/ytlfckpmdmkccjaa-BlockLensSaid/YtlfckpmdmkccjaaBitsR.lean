/- The reader's methods: what each answers and leaves behind. Conditions: fewer than 2^60 bits in all. -/
import Derived.Test.YtlfckpmdmkccjaaBitsW
set_option maxRecDepth 100000
set_option linter.unusedVariables false
set_option linter.unusedSimpArgs false
namespace Go.Proofs.Ytlfckpmdmkccjaa.Bits
open Go.RowKit Go.Proofs.Ytlfckpmdmkccjaa.Lib Go.Proofs.Ytlfckpmdmkccjaa.Num

section
variable {g V b t : Nat}
end
end Go.Proofs.Ytlfckpmdmkccjaa.Bits
