/-
  The beginning of this seat's walks.
-/
import Derived.Test.YtnmpgjodndfoiaaDoorLib
import Derived.Test.YtnmpgjodndfoiaaDoorChecked
import Derived.WalkKit
import Derived.ProofKit
import Derived.WalkSmall
import Derived.WalkSpells
import Derived.WalkLawsBesides
import Derived.Lib.Hide
import Derived.IntWalk
import Derived.OwnWalk
import Derived.OneCell
import Derived.Outline
import Derived.Deep.QuietTactic
import Derived.BigQuiet
import Derived.Handy
import Derived.Test.YtnmpgjodndfoiaaDoorCls
