/- How elements of int stand in memory. -/
import Derived.Test.YtdnjjodjglikjaaRc
namespace Go.Proofs.Ytdnjjodjglikjaa
open Go Go.SL

abbrev valI (x : Int) : Value := .int .i64 x
abbrev owI (v : Value) (xs : List Int) : Atom := own encI v 3 xs

end Go.Proofs.Ytdnjjodjglikjaa
