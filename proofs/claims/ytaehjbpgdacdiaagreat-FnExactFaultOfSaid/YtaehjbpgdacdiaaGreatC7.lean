/- Texts of this claim, joined: J1. -/
import Derived.Test.YtaehjbpgdacdiaaGreatC6
set_option linter.all false
namespace Go.Proofs.YtaehjbpgdacdiaaGreat.Am
open Go
theorem c1D:(Rows.fnExactFaultOfRow.inPlace==Tryz.prog.inPlace 3)=true:=by kernel_rfl
theorem b9Q:(Rows.fnExactFaultOfRow.unfollowed==Tryz.prog.unfollowed 3)=true:=by kernel_rfl
theorem b9R:(Rows.fnExactFaultOfRow.recurses==Tryz.prog.recurses 3)=true:=by kernel_rfl
theorem b9S:(Rows.fnExactFaultOfRow.named==Tryz.prog.varsNamed 3)=true:=by kernel_rfl
theorem b9T:(Rows.fnExactFaultOfRow.plainKeys==Tryz.prog.plainKeys)=true:=by kernel_rfl
theorem b9U:(Rows.fnExactFaultOfRow.lifted==Tryz.prog.liftsFinal)=true:=by kernel_rfl
theorem b9V:(Tryz.prog.make==some Rows.fnExactFaultOfRow.make)=true:=by kernel_rfl
theorem closed3:joinedFacts Tryz.prog 3 Tryz.f3 Rows.fnExactFaultOfSpec Rows.fnExactFaultOfRow=true:=by unfold joinedFacts;exact(Wv (Wv (Wv (Wv (Wv (Wv (Wv (Wv (Wv (Wv (Wv (Wv (Wv (Wv (Wv (Wv (Wv (Wv (Wv (Wv (Wv (Wv (Wv (Wv (Wv (Wv (Wv (Wv (Wv (Wv (Wv (by kernel_rfl) jp1) jp2) (by kernel_rfl)) (by kernel_rfl)) (by kernel_rfl)) jp6) (by kernel_rfl)) jp8) c1D) b9Q) b9R) b9S) (by kernel_rfl)) (by kernel_rfl)) (by kernel_rfl)) (by kernel_rfl)) (by kernel_rfl)) (by kernel_rfl)) (by kernel_rfl)) (by kernel_rfl)) (by kernel_rfl)) b9T) (by kernel_rfl)) d4n) d4o) b9U) b9V) (by kernel_rfl)) (by kernel_rfl)) (by kernel_rfl)) (by kernel_rfl))
end Go.Proofs.YtaehjbpgdacdiaaGreat.Am
