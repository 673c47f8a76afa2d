/- Lifted texts of the Sink laws. -/
import Derived.Test.YtjdbmfipciadfaaSkMan
import Derived.Test.YtjdbmfipciadfaaSx0
import Derived.Test.YtjdbmfipciadfaaSx1
import Derived.Test.YtjdbmfipciadfaaSx2
import Derived.Test.YtjdbmfipciadfaaSx3
import Derived.Test.YtjdbmfipciadfaaSx4
import Derived.Test.YtjdbmfipciadfaaSx5
import Derived.Test.YtjdbmfipciadfaaSx6
import Derived.Test.YtjdbmfipciadfaaSx7
import Derived.Test.YtjdbmfipciadfaaSx9
import Derived.Test.YtjdbmfipciadfaaSx11
import Derived.Test.YtjdbmfipciadfaaSx12
import Derived.Test.YtjdbmfipciadfaaSx13
import Derived.Test.YtjdbmfipciadfaaSx14
import Derived.Test.YtjdbmfipciadfaaSx16
import Derived.Test.YtjdbmfipciadfaaSx17
import Derived.Test.YtjdbmfipciadfaaSx18
import Derived.Test.YtjdbmfipciadfaaSx20
import Derived.Test.YtjdbmfipciadfaaSx21
import Derived.Test.YtjdbmfipciadfaaSx22
import Derived.Test.YtjdbmfipciadfaaSx23


