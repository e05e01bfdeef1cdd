/- What the proof of FnCallsSaid rests on (part 7). -/
import Derived.Test.YtcanhpinlapnnaaGreatC6
import Derived.Test.YtcanhpinlapnnaaGreatRows
import Derived.JoinedOf
import Derived.KernelRfl
set_option linter.all false
namespace Go.Proofs.YtcanhpinlapnnaaGreat.Am
open Go
theorem Qy{a b:Bool}(x:a=true)(y:b=true):(a&&b)=true:=by rw[x,y];rfl
theorem jp1:laidOutB Tryz.prog=true:=by kernel_rfl
theorem jp2:mapsRowed Tryz.prog=true:=by kernel_rfl
theorem jp6:(Tryz.prog.stops==[])=true:=by kernel_rfl
theorem jp8:(Tryz.prog.stopKnobs==[])=true:=by kernel_rfl
theorem a1s:Tryz.prog.stopsHeard=true:=by kernel_rfl
theorem a1t:Tryz.prog.mayEnter=true:=by kernel_rfl
theorem T6:(Rows.fnCallsRow.inPlace==Tryz.prog.inPlace 4)=true:=by kernel_rfl
theorem I2:(Rows.fnCallsRow.unfollowed==Tryz.prog.unfollowed 4)=true:=by kernel_rfl
theorem I3:(Rows.fnCallsRow.recurses==Tryz.prog.recurses 4)=true:=by kernel_rfl
theorem I4:(Rows.fnCallsRow.named==Tryz.prog.varsNamed 4)=true:=by kernel_rfl
theorem I5:(Rows.fnCallsRow.plainKeys==Tryz.prog.plainKeys)=true:=by kernel_rfl
theorem I6:(Rows.fnCallsRow.lifted==Tryz.prog.liftsFinal)=true:=by kernel_rfl
theorem I7:(Tryz.prog.make==some Rows.fnCallsRow.make)=true:=by kernel_rfl
theorem uy:joinedFacts Tryz.prog 4 Tryz.f4 Rows.fnCallsSpec Rows.fnCallsRow=true:=by unfold joinedFacts;exact(Qy (Qy (Qy (Qy (Qy (Qy (Qy (Qy (Qy (Qy (Qy (Qy (Qy (Qy (Qy (Qy (Qy (Qy (Qy (Qy (Qy (Qy (Qy (Qy (Qy (Qy (Qy (Qy (Qy (Qy (Qy (by kernel_rfl) jp1) jp2) (by kernel_rfl)) (by kernel_rfl)) (by kernel_rfl)) jp6) (by kernel_rfl)) jp8) T6) I2) I3) I4) (by kernel_rfl)) (by kernel_rfl)) (by kernel_rfl)) (by kernel_rfl)) (by kernel_rfl)) (by kernel_rfl)) (by kernel_rfl)) (by kernel_rfl)) (by kernel_rfl)) I5) (by kernel_rfl)) a1s) a1t) I6) I7) (by kernel_rfl)) (by kernel_rfl)) (by kernel_rfl)) (by kernel_rfl))
end Go.Proofs.YtcanhpinlapnnaaGreat.Am
