/- umbrella -/
import Derived.Test.YtfidcekobjmamaaGT0
import Derived.Test.YtfidcekobjmamaaGT1
import Derived.Test.YtfidcekobjmamaaGT2
import Derived.Test.YtfidcekobjmamaaGT3
import Derived.Test.YtfidcekobjmamaaGT4
