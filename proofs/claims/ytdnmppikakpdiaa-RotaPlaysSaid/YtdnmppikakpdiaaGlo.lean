import Derived.Test.YtdnmppikakpdiaaAm

namespace Go.Am
def gBlocks : List Nat := []
end Go.Am
