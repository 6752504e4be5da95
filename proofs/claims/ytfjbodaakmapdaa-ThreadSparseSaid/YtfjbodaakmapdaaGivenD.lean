/-
  The contracts of package thread and of the statements' own helper tame, all together.
-/
import Derived.Test.YtfjbodaakmapdaaTa
import Derived.Test.YtfjbodaakmapdaaTb
import Derived.Test.YtfjbodaakmapdaaTc
