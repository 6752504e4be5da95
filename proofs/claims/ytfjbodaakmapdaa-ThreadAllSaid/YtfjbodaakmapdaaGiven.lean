/-
  The contracts of package thread, all together.
-/
import Derived.Test.YtfjbodaakmapdaaFree
import Derived.Test.YtfjbodaakmapdaaSame
import Derived.Test.YtfjbodaakmapdaaAbs
import Derived.Test.YtfjbodaakmapdaaItem
