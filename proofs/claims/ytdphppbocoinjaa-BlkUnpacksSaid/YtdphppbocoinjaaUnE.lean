/- Proved: the document's Unpack of a block request, whatever the bytes. -/
import Derived.Test.YtdphppbocoinjaaUnD0
import Derived.Test.YtdphppbocoinjaaUnD1
import Derived.Test.YtdphppbocoinjaaUnD2
import Derived.Test.YtdphppbocoinjaaUnD3
import Derived.Test.YtdphppbocoinjaaUnD4
import Derived.Test.YtdphppbocoinjaaUnPure
namespace Go.Proofs.Ytdphppbocoinjaa.UN
end Go.Proofs.Ytdphppbocoinjaa.UN
