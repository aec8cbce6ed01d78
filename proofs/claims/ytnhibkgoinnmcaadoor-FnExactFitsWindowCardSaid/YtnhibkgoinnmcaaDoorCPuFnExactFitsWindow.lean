/- The law FnExactFitsWindow, over its typed text. -/
import Derived.Test.YtnhibkgoinnmcaaDoorCPuFits
