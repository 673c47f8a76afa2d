/- Lifted texts of one law. -/
import Derived.Test.YtjdbmfipciadfaaSkMan
import Derived.Test.YtjdbmfipciadfaaSx25
import Derived.Test.YtjdbmfipciadfaaSx26


