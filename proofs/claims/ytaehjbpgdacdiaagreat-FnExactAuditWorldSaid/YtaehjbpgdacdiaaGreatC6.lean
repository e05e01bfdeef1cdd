/- Texts of this claim, joined: J0. -/
import Derived.Test.YtaehjbpgdacdiaaGreatC5
import Derived.Test.YtaehjbpgdacdiaaGreatRows
import Derived.JoinedOf
import Derived.KernelRfl
set_option linter.all false
namespace Go.Proofs.YtaehjbpgdacdiaaGreat.Am
open Go
theorem Wv{a b:Bool}(x:a=true)(y:b=true):(a&&b)=true:=by rw[x,y];rfl
theorem jp1:laidOutB Tryz.prog=true:=by kernel_rfl
theorem jp2:mapsRowed Tryz.prog=true:=by kernel_rfl
theorem jp6:(Tryz.prog.stops==[])=true:=by kernel_rfl
theorem jp8:(Tryz.prog.stopKnobs==[])=true:=by kernel_rfl
theorem d4n:Tryz.prog.stopsHeard=true:=by kernel_rfl
theorem d4o:Tryz.prog.mayEnter=true:=by kernel_rfl
end Go.Proofs.YtaehjbpgdacdiaaGreat.Am
