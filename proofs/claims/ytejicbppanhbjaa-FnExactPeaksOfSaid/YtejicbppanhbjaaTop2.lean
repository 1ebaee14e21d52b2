/-  -/
import Derived.Test.YtejicbppanhbjaaSets8
