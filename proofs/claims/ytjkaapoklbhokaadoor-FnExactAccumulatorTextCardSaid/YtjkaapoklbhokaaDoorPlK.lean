/- Plain laws, part K: the law of carries. Conditions: none. -/
import Derived.Test.YtjkaapoklbhokaaDoorPlJ
set_option linter.all false
namespace Go.Prg
open Go.Eng

end Go.Prg
