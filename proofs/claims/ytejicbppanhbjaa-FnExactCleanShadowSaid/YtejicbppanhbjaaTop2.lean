/-  -/
import Derived.Test.YtejicbppanhbjaaSets7
