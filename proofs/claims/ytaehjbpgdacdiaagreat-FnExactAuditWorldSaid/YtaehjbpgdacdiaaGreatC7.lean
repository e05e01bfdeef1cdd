/- Texts of this claim, joined: J2. -/
import Derived.Test.YtaehjbpgdacdiaaGreatC6
set_option linter.all false
namespace Go.Proofs.YtaehjbpgdacdiaaGreat.Am
open Go
theorem d4x:(Rows.fnExactAuditWorldRow.inPlace==Tryz.prog.inPlace 4)=true:=by kernel_rfl
theorem d4r:(Rows.fnExactAuditWorldRow.unfollowed==Tryz.prog.unfollowed 4)=true:=by kernel_rfl
theorem d4s:(Rows.fnExactAuditWorldRow.recurses==Tryz.prog.recurses 4)=true:=by kernel_rfl
theorem d4t:(Rows.fnExactAuditWorldRow.named==Tryz.prog.varsNamed 4)=true:=by kernel_rfl
theorem d4u:(Rows.fnExactAuditWorldRow.plainKeys==Tryz.prog.plainKeys)=true:=by kernel_rfl
theorem d4v:(Rows.fnExactAuditWorldRow.lifted==Tryz.prog.liftsFinal)=true:=by kernel_rfl
theorem d4w:(Tryz.prog.make==some Rows.fnExactAuditWorldRow.make)=true:=by kernel_rfl
theorem closed4:joinedFacts Tryz.prog 4 Tryz.f4 Rows.fnExactAuditWorldSpec Rows.fnExactAuditWorldRow=true:=by unfold joinedFacts;exact(Wv (Wv (Wv (Wv (Wv (Wv (Wv (Wv (Wv (Wv (Wv (Wv (Wv (Wv (Wv (Wv (Wv (Wv (Wv (Wv (Wv (Wv (Wv (Wv (Wv (Wv (Wv (Wv (Wv (Wv (Wv (by kernel_rfl) jp1) jp2) (by kernel_rfl)) (by kernel_rfl)) (by kernel_rfl)) jp6) (by kernel_rfl)) jp8) d4x) d4r) d4s) d4t) (by kernel_rfl)) (by kernel_rfl)) (by kernel_rfl)) (by kernel_rfl)) (by kernel_rfl)) (by kernel_rfl)) (by kernel_rfl)) (by kernel_rfl)) (by kernel_rfl)) d4u) (by kernel_rfl)) d4n) d4o) d4v) d4w) (by kernel_rfl)) (by kernel_rfl)) (by kernel_rfl)) (by kernel_rfl))
end Go.Proofs.YtaehjbpgdacdiaaGreat.Am
