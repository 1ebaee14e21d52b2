/-  -/
import Derived.Test.YtohmojljepjimaaParts
import Derived.Test.YtohmojljepjimaaPieces
import Derived.Test.YtohmojljepjimaaPieces2
import Derived.Test.YtohmojljepjimaaClimb
import Derived.Test.YtohmojljepjimaaOrders
import Derived.Test.YtohmojljepjimaaClear
