/- All of them. Written by lift.py. -/import Derived.Test.YtjdbmfipciadfaaSy0
import Derived.Test.YtjdbmfipciadfaaSy1
import Derived.Test.YtjdbmfipciadfaaSy2
import Derived.Test.YtjdbmfipciadfaaSy3
import Derived.Test.YtjdbmfipciadfaaSy4
import Derived.Test.YtjdbmfipciadfaaSy5
import Derived.Test.YtjdbmfipciadfaaSy6
import Derived.Test.YtjdbmfipciadfaaSy7
import Derived.Test.YtjdbmfipciadfaaSy8
import Derived.Test.YtjdbmfipciadfaaSy9
import Derived.Test.YtjdbmfipciadfaaSy10
import Derived.Test.YtjdbmfipciadfaaSy11
import Derived.Test.YtjdbmfipciadfaaSy12
import Derived.Test.YtjdbmfipciadfaaSy13
import Derived.Test.YtjdbmfipciadfaaSy14
import Derived.Test.YtjdbmfipciadfaaSy15
import Derived.Test.YtjdbmfipciadfaaSy16
import Derived.Test.YtjdbmfipciadfaaSy17
import Derived.Test.YtjdbmfipciadfaaSy18
import Derived.Test.YtjdbmfipciadfaaSy19
import Derived.Test.YtjdbmfipciadfaaSy20
import Derived.Test.YtjdbmfipciadfaaSy21
import Derived.Test.YtjdbmfipciadfaaSy22
import Derived.Test.YtjdbmfipciadfaaSy23
import Derived.Test.YtjdbmfipciadfaaSy24
import Derived.Test.YtjdbmfipciadfaaSy25
import Derived.Test.YtjdbmfipciadfaaSy26
import Derived.Test.YtjdbmfipciadfaaSy27
namespace Go.Proofs.Ytjdbmfipciadfaa.A
open Go Go.Pt
set_option maxHeartbeats 4000000
set_option maxRecDepth 100000
end Go.Proofs.Ytjdbmfipciadfaa.A
