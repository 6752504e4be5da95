/-
  The contracts of package thread, of the statements' own helper tame and of the reference's Arches, all together.
-/
import Derived.Test.YtfjbodaakmapdaaGivenD
import Derived.Test.YtfjbodaakmapdaaMin
import Derived.Test.YtfjbodaakmapdaaRArch
