/-
  The aids of the texts about programs, under the name that other texts import.
  No condition.
-/
import Derived.Test.YtobbinppkjmhhaaDoorAidP
