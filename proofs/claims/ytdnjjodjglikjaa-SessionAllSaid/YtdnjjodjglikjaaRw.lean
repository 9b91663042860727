/- How elements of string stand in memory. -/
import Derived.Test.YtdnjjodjglikjaaRc
namespace Go.Proofs.Ytdnjjodjglikjaa
open Go Go.SL

abbrev valS (x : ByteArray) : Value := .string x
abbrev owS (v : Value) (xs : List ByteArray) : Atom := own encS v 9 xs

end Go.Proofs.Ytdnjjodjglikjaa
