import Derived.Shelf.SlSortCmp.WholeK
import Derived.Test.YtajnhkkiddeegaaGreatZc3
set_option linter.unusedVariables false
set_option linter.unusedSimpArgs false

