/- Package variables that hold numbers and that functions from outside read: their blocks. -/
import Derived.Test.YtkdnbfmlpklkhaaGreatDoorAm
namespace Go.Am
def gBlocks : List Nat := [0]
end Go.Am
