import Derived.Test.YthinedikejlgmaaGreatA37
import Derived.Test.YthinedikejlgmaaGreatA33
set_option linter.all false
set_option maxRecDepth 20000
namespace Go.Aft
open Go.RowKit
open Go.Proofs.Tryz
section
variable {H:Type} {enc:TypeId×Value->H} {w:World}
theorem Lz(fuel:Nat):Rd enc prog w 43 (λl:List Event=>[.sl (l.map aQ)]) (λl=>l.length*40<=140737488351232) fuel:=(Rd.Re (r:=aQ) (fit:=λ_=>True) underlying43 (by decide+kernel) (λx=>by rw[show prog.cellsOf 82=5 by decide+kernel];rfl) fuel λf _=>AI f).map id (λ_=>rfl) (λl h=>by
 have:=h.1;rw[show prog.bytesOf 82=40 by decide+kernel]at this
 exact this)
end
end Go.Aft
