/- Bytes, where the writer's texts are there: these have the names. No condition. -/
import Derived.Test.YtlfckpmdmkccjaaBitsLay

set_option maxRecDepth 100000