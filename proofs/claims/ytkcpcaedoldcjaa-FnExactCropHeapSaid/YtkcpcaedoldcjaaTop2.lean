/-  -/
import Derived.Test.YtkcpcaedoldcjaaPop
