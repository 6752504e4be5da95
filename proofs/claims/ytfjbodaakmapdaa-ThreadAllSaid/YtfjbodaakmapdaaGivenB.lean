/-
  The contracts of package thread and of the statements' own helper tame, all together.
-/
import Derived.Test.YtfjbodaakmapdaaGiven
import Derived.Test.YtfjbodaakmapdaaTame
