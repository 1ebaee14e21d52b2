/-  -/
import Derived.Test.YtkcpcaedoldcjaaSets2
