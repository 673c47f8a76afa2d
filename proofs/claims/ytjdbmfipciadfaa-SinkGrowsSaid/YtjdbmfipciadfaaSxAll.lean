/- All lifted texts of the Sink laws. -/
import Derived.Test.YtjdbmfipciadfaaSkMan
import Derived.Test.YtjdbmfipciadfaaSx0
import Derived.Test.YtjdbmfipciadfaaSx1
import Derived.Test.YtjdbmfipciadfaaSx2
import Derived.Test.YtjdbmfipciadfaaSx3
import Derived.Test.YtjdbmfipciadfaaSx4
import Derived.Test.YtjdbmfipciadfaaSx5
import Derived.Test.YtjdbmfipciadfaaSx6
import Derived.Test.YtjdbmfipciadfaaSx7
import Derived.Test.YtjdbmfipciadfaaSx8
import Derived.Test.YtjdbmfipciadfaaSx9
import Derived.Test.YtjdbmfipciadfaaSx10
import Derived.Test.YtjdbmfipciadfaaSx11
import Derived.Test.YtjdbmfipciadfaaSx12
import Derived.Test.YtjdbmfipciadfaaSx13
import Derived.Test.YtjdbmfipciadfaaSx14
import Derived.Test.YtjdbmfipciadfaaSx15


