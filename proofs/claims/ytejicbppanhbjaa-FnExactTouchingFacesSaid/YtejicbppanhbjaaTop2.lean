/-  -/
import Derived.Test.YtejicbppanhbjaaSets6
