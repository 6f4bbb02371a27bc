import Derived.Test.YtgohjdaepcmonaaV0
import Derived.Test.YtgohjdaepcmonaaV1
import Derived.Test.YtgohjdaepcmonaaV2
import Derived.Test.YtgohjdaepcmonaaV3
import Derived.Test.YtgohjdaepcmonaaV4
import Derived.Test.YtgohjdaepcmonaaV5
