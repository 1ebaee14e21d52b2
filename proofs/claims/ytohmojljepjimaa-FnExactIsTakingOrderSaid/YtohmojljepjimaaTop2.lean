/-  -/
import Derived.Test.YtohmojljepjimaaParts
import Derived.Test.YtohmojljepjimaaPieces
