/- Package variables that hold numbers and that functions from outside read: their blocks. -/
import Derived.Test.YtdnmppikakpdiaaAm
namespace Go.Am
def gBlocks : List Nat := []
end Go.Am
